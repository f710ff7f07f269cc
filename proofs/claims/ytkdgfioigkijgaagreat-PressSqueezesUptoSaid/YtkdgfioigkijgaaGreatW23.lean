import Derived.Test.YtkdgfioigkijgaaGreatW01
import Derived.Test.YtkdgfioigkijgaaGreatW02
import Derived.Test.YtkdgfioigkijgaaGreatW03
import Derived.Test.YtkdgfioigkijgaaGreatW04
import Derived.Test.YtkdgfioigkijgaaGreatW05
import Derived.Test.YtkdgfioigkijgaaGreatW06
import Derived.Test.YtkdgfioigkijgaaGreatW07
import Derived.Test.YtkdgfioigkijgaaGreatW08
import Derived.Test.YtkdgfioigkijgaaGreatW09
import Derived.Test.YtkdgfioigkijgaaGreatW10
import Derived.Test.YtkdgfioigkijgaaGreatW11
import Derived.Test.YtkdgfioigkijgaaGreatW12
import Derived.Test.YtkdgfioigkijgaaGreatW13
import Derived.Test.YtkdgfioigkijgaaGreatW14
import Derived.Test.YtkdgfioigkijgaaGreatW15
import Derived.Test.YtkdgfioigkijgaaGreatW18
import Derived.Test.YtkdgfioigkijgaaGreatW19
import Derived.Test.YtkdgfioigkijgaaGreatW20
import Derived.Test.YtkdgfioigkijgaaGreatW21
import Derived.Test.YtkdgfioigkijgaaGreatW22
import Derived.Deep.CutRange
import Derived.Deep.Light
import Derived.BigRegion
import Derived.BigQuiet
import Derived.Deep.QuietTactic
import Derived.Deep.LoopGhost
import Derived.Deep.DeepCutAuto
import Derived.KernelRfl
import Derived.Deep.RegionLaw
import Derived.Outline
set_option linter.unusedVariables false
set_option linter.unusedSimpArgs false
set_option maxRecDepth 100000
namespace Go.Proofs.YtkdgfioigkijgaaGreat.Blk
open Go.RowKit Go.Proofs.YtkdgfioigkijgaaGreat.Lib Go.Proofs.YtkdgfioigkijgaaGreat.Ints Go.Proofs.YtkdgfioigkijgaaGreat.Lz
theorem frq_comm (N : Nat) (xs ys : List Int) : frq N (xs ++ ys) = frq N (ys ++ xs) := by
  unfold frq
  congr 1
  funext i
  unfold Code.cnt
  rw [List.countP_append, List.countP_append, Nat.add_comm]
theorem mk286 : ∀ w : World, (Instr.makeSlice 79 (.int .i64 286) (.int .i64 286)).run Tryz.prog w = .ok (.slice (some ⟨w.heap.size, 0, none⟩) 286 286) (w.alloc (.cells (i64s (frq 286 [])).toArray 3)) := fun _ => by kernel_rfl
theorem mk30 : ∀ w : World, (Instr.makeSlice 79 (.int .i64 30) (.int .i64 30)).run Tryz.prog w = .ok (.slice (some ⟨w.heap.size, 0, none⟩) 30 30) (w.alloc (.cells (i64s (frq 30 [])).toArray 3)) := fun _ => by kernel_rfl
theorem frq_256 : (i64s (frq 286 [])).toArray.setIfInBounds 256 (.int .i64 1) = (i64s (frq 286 [256])).toArray := by
  have := frq_set (N := 286) [] (s := 256) (by decide)
  exact this
set_option maxHeartbeats 8000000 in
theorem rownLens_any (w : World) (A : Option Addr) (n c : Nat) (l : List Tok) (p : Option Nat) (hn : l.length = n) (hS : Sl w A (tcells l) p) (hb : n ≤ 6000000000000) (hl : LitB l) :
    Calls Tryz.prog 57 #[.slice A n c] w (OwnPost w l) := by
  have HS := Hd.mk hS
  have HL := Hd.mk hl
  obtain ⟨e, he⟩ : ∃ e, e = mayB l := ⟨_, rfl⟩
  have HE := Hd.mk he
  clear hS hl he
  have hm1 := mk286
  have hm2 := mk30
  go_enter Tryz.func57, Tryz.ntmps57
  go_wp2_with (fail)
  refine (rmay_any w A n c l p hn HS.out hb e HE.out).mono ?_
  rintro r w1 ⟨rfl, h1⟩
  have F1 := Hd.mk h1
  clear h1
  by_cases h : e = 0
  · subst h
    have hz := mayB_zero HE.out.symm
    have HZ := Hd.mk hz.2
    have hz3 := hz.1
    clear hz
    go_upto_region 4 with (fail)
    go_cut [6, 7] from 27 to 28 (fun s6 s7 wc => ∃ gx gy : Nat, s6 = .slice (some ⟨gx, 0, none⟩) 286 286 ∧ s7 = .slice (some ⟨gy, 0, none⟩) 30 30 ∧ gx ≠ gy ∧ w.heap.size ≤ gx ∧ w.heap.size ≤ gy ∧ Hd (wc.heap[gx]? = some (.cells (i64s (frq 286 [])).toArray 3 (0, 0))) ∧ Hd (wc.heap[gy]? = some (.cells (i64s (frq 30 [])).toArray 3 (0, 0))) ∧ Hd (Fr w wc []))
    case first =>
      have hsz := F1.out.size
      go_region
      · go_wp2
        go_meet
        case rel => exact ⟨w1.heap.size, w1.heap.size + 1, rfl, rfl, by omega, by omega, by omega, ⟨blk_alloc (blk_new w1 _) _⟩, ⟨by rw [drew_heap]; simpa using blk_new (w1.alloc _) _⟩, ⟨((F1.out.alloc _).alloc _).drew⟩⟩
      · go_wp2
        go_meet
        case rel => exact ⟨w1.heap.size + 1, w1.heap.size, rfl, rfl, by omega, by omega, by omega, ⟨by rw [drew_heap]; simpa using blk_new (w1.alloc _) _⟩, ⟨blk_alloc (blk_new w1 _) _⟩, ⟨((F1.out.alloc _).alloc _).drew⟩⟩
    case rest =>
      obtain ⟨gx, gy, rfl, rfl, hxy, hgx, hgy, X2, Y2, F2⟩ := hcut
      clear hm1 hm2 F1
      have q0 := (blk_cell X2.out 256).trans (frq_get (N := 286) [] (s := 256) (by decide))
      have q1 := blk_frozen X2.out 256
      have X3 : Hd ((wc.setCell ⟨gx, 256, none⟩ (.int .i64 1)).heap[gx]? = some (.cells (i64s (frq 286 ([256] ++ symsA (l.take 0)))).toArray 3 (0, 0))) := ⟨by have := blk_set X2.out 256 (.int .i64 1); rw [frq_256] at this; exact this⟩
      have Y3 : Hd ((wc.setCell ⟨gx, 256, none⟩ (.int .i64 1)).heap[gy]? = some (.cells (i64s (frq 30 (symsB (l.take 0)))).toArray 3 (0, 0))) := ⟨blk_far Y2.out (p := ⟨gx, 256, none⟩) hxy.symm _⟩
      have F3 : Hd (Fr w (wc.setCell ⟨gx, 256, none⟩ (.int .i64 1)) []) := ⟨F2.out.setCell (a := ⟨gx, 256, none⟩) (.int .i64 1) (.inr hgx)⟩
      clear X2 Y2 F2
      go_wp2
      go_loopg [33] l.length (fun kq jv wr => ∃ j : Nat, jv = .int .i64 (j : Nat) ∧ j + kq = l.length ∧ Hd (wr.heap[gx]? = some (.cells (i64s (frq 286 ([256] ++ symsA (l.take j)))).toArray 3 (0, 0))) ∧ Hd (wr.heap[gy]? = some (.cells (i64s (frq 30 (symsB (l.take j)))).toArray 3 (0, 0))) ∧ Hd (Fr w wr []))
      case atStart => exact ⟨0, rfl, by omega, X3, Y3, F3⟩
      case round =>
        obtain ⟨j, rfl, hj, HX, HY, HF⟩ := hrel
        have hca := symsA_len (l.take j)
        have hcb := symsB_len (l.take j)
        rw [List.length_take] at hca hcb
        by_cases h1 : j < l.length
        · obtain ⟨a, o1, rfl, _, hcc⟩ := Sl.row (enc := tcell) (sz := 3) (fun _ => rfl) (HS.out.frame HF.out (by simp)) h1 (by decide)
          obtain ⟨t, ht⟩ : ∃ t, t = l[j] := ⟨_, rfl⟩
          rw [← ht] at hcc
          have c0 := hcc 0 (by decide)
          have c1 := hcc 1 (by decide)
          have c2 := hcc 2 (by decide)
          simp only [tcell, List.getElem?_cons_zero, List.getElem?_cons_succ, Nat.add_zero] at c0 c1 c2
          have htm : t ∈ l := by rw [ht]; exact List.getElem_mem h1
          have hrt := HZ.out t htm
          have hlt := HL.out t htm
          have HTA : Hd ([256] ++ symsA (l.take (j + 1)) = [256] ++ symsA (l.take j) ++ [(sgA t).1]) := ⟨by rw [symsA_take h1, ht, List.append_assoc]⟩
          have HTB : Hd (symsB (l.take (j + 1)) = symsB (l.take j) ++ if t.len = 0 then [] else [(sgB t).1]) := ⟨by rw [symsB_take h1, ht]⟩
          have sa := (sgA_fit hrt hlt).1.sym
          have sb := (sgB_fit hrt).sym
          have hca2 : ([256] ++ symsA (l.take j)).length ≤ 65536 + 1 := by rw [List.length_append, List.length_singleton]; omega
          clear hcc ht htm
          generalize [256] ++ symsA (l.take j) = SA at *
          generalize symsB (l.take j) = SB at *
          have A0 := (Fr.refl wr []).alloc (.cells #[.int .u8 t.lit, .int .i64 t.len, .int .i64 t.dist] 80)
          by_cases hlen : t.len = 0
          · have hsa : (sgA t).1 = t.lit := by unfold sgA; rw [if_pos hlen]
            rw [hsa] at sa HTA
            rw [if_pos hlen, List.append_nil] at HTB
            obtain ⟨lt, ln, ld⟩ := t
            simp only at hlen hlt sa HTA A0
            subst hlen
            obtain ⟨lt, rfl⟩ := Int.eq_ofNat_of_zero_le hlt.1
            have hlt2 : (lt : Int) ≤ 255 := hlt.2
            have X5 := Hd.mk (A0.blk HX.out (by simp))
            have Y5 := Hd.mk (A0.blk HY.out (by simp))
            have kx := (blk_cell X5.out lt).trans (frq_get SA (s := lt) (by omega))
            have fx := blk_frozen X5.out lt
            have hcx := cnt_le SA lt
            have X6 := Hd.mk (blk_set X5.out lt (.int .i64 ((Code.cnt SA lt : Nat) + 1 : Int)))
            rw [frq_set SA (by omega), ← HTA.out] at X6
            have Y6 := Hd.mk (blk_far Y5.out (p := ⟨gx, lt, none⟩) hxy.symm (.int .i64 ((Code.cnt SA lt : Nat) + 1 : Int)))
            have F6 := Hd.mk ((HF.out.trans A0 (by simp)).setCell (a := ⟨gx, lt, none⟩) (.int .i64 ((Code.cnt SA lt : Nat) + 1 : Int)) (.inr hgx))
            generalize Code.cnt SA lt = cx at *
            have hcx2 : (cx : Int) ≤ 65537 := by omega
            clear hcx A0 HX HY sa sb hlt
            go_wp2
            go_roundg (gk - 1)
            case measure => omega
            case rel => exact ⟨j + 1, by go_num, by omega, X6, ⟨by rw [HTB.out]; exact Y6.out⟩, F6⟩
          · have hla : (sgA t).1 = (symN lenT 257 3 258 t.len).1 := by unfold sgA; rw [if_neg hlen]
            have hlb : (sgB t).1 = (symN distT 0 1 32768 t.dist).1 := by unfold sgB; rw [if_neg hlen]
            rw [if_neg hlen] at HTB
            have hle : (t.len == 0) = false := by simpa using hlen
            obtain ⟨⟨s1, s2, s3, s4⟩, hs⟩ : ∃ x, x = symN lenT 257 3 258 t.len := ⟨_, rfl⟩
            obtain ⟨⟨u1, u2, u3, u4⟩, hu⟩ : ∃ x, x = symN distT 0 1 32768 t.dist := ⟨_, rfl⟩
            rw [hla, ← hs] at sa HTA
            rw [hlb, ← hu] at sb HTB
            simp only at sa sb HTA HTB
            have HS1 := Hd.mk hs
            have HU1 := Hd.mk hu
            obtain ⟨s1, rfl⟩ := Int.eq_ofNat_of_zero_le sa.1
            obtain ⟨u1, rfl⟩ := Int.eq_ofNat_of_zero_le sb.1
            clear hla hlb hs hu
            go_wp2_with (fail)
            have bz := blk_new wr (.cells #[.int .u8 t.lit, .int .i64 t.len, .int .i64 t.dist] 80)
            refine (rlenSymbol_any _ t.len).mono ?_
            rintro r w3 ⟨rfl, h3⟩
            rw [← HS1.out]
            have f3 := A0.trans h3 (by simp)
            have BZ := Hd.mk (h3.blk bz (by simp))
            clear h3 bz A0
            have d2 := blk_cell BZ.out 2
            simp only [List.getElem?_toArray, List.getElem?_cons_zero, List.getElem?_cons_succ] at d2
            go_wp2_with (fail)
            refine (rdistSymbol_any w3 t.dist).mono ?_
            rintro r w4 ⟨rfl, h3⟩
            rw [← HU1.out]
            have f4 := f3.trans h3 (by simp)
            have F4 := Hd.mk (HF.out.trans f4 (by simp))
            have X5 := Hd.mk (f4.blk HX.out (by simp))
            have Y5 := Hd.mk (f4.blk HY.out (by simp))
            clear h3 f3 f4 BZ d2
            simp only
            have kx := (blk_cell X5.out s1).trans (frq_get SA (s := s1) (by omega))
            have fx := blk_frozen X5.out s1
            have hcx := cnt_le SA s1
            have X6 := Hd.mk (blk_set X5.out s1 (.int .i64 ((Code.cnt SA s1 : Nat) + 1 : Int)))
            rw [frq_set SA (by omega), ← HTA.out] at X6
            have Y6 := Hd.mk (blk_far Y5.out (p := ⟨gx, s1, none⟩) hxy.symm (.int .i64 ((Code.cnt SA s1 : Nat) + 1 : Int)))
            have F6 := Hd.mk (F4.out.setCell (a := ⟨gx, s1, none⟩) (.int .i64 ((Code.cnt SA s1 : Nat) + 1 : Int)) (.inr hgx))
            generalize Code.cnt SA s1 = cx at *
            have hcx2 : (cx : Int) ≤ 65537 := by omega
            have ky := (blk_cell Y6.out u1).trans (frq_get SB (s := u1) (by omega))
            have fy := blk_frozen Y6.out u1
            have hcy := cnt_le SB u1
            have Y7 := Hd.mk (blk_set Y6.out u1 (.int .i64 ((Code.cnt SB u1 : Nat) + 1 : Int)))
            rw [frq_set SB (by omega), ← HTB.out] at Y7
            have X7 := Hd.mk (blk_far X6.out (p := ⟨gy, u1, none⟩) hxy (.int .i64 ((Code.cnt SB u1 : Nat) + 1 : Int)))
            have F7 := Hd.mk (F6.out.setCell (a := ⟨gy, u1, none⟩) (.int .i64 ((Code.cnt SB u1 : Nat) + 1 : Int)) (.inr hgy))
            generalize Code.cnt SB u1 = cy at *
            have hcy2 : (cy : Int) ≤ 65536 := by omega
            have hs1 : (s1 : Int) < 286 := by omega
            have hu1 : (u1 : Int) < 30 := by omega
            clear hcx hcy HX HY
            go_wp2
            go_roundg (gk - 1)
            case measure => omega
            case rel => exact ⟨j + 1, by go_num, by omega, X7, Y7, F7⟩
        · obtain rfl : j = l.length := by omega
          rw [List.take_length] at HX HY
          have SX : Hd (Sl wr (some ⟨gx, 0, none⟩) (i64s (litFrq l)) (some gx)) := ⟨by have := sl_of_blk HX.out; rw [frq_comm] at this; simpa [litFrq] using this⟩
          have EA := Hd.mk (litFrq_eq hz3)
          have EB := Hd.mk (distFrq_eq hz3)
          clear X3 Y3 F3
          go_wp2_with (fail)
          refine (Lens.rlengths_any wr 15 (some ⟨gx, 0, none⟩) 286 286 (litFrq l) _ (frq_len _ _) SX.out (by omega)).mono ?_
          rintro r w6 hlp
          unfold Lens.LensPost at hlp
          obtain ⟨A8, n8, c8, rfl, h1', h2, h3⟩ := hlp
          rw [EA.out] at h1' ⊢
          have hn8 : n8 = 286 := by have := h1'.1; rw [i64s_length, ownLit_len] at this; omega
          subst hn8
          have O8 := Hd.mk h1'
          have NW8 : Hd (∀ k, (Value.slice A8 286 c8).ownBlock = some k → w.heap.size ≤ k) := ⟨fun k hk => by have := h2 k hk; have := HF.out.size; omega⟩
          have F8 := Hd.mk (HF.out.trans h3 (by simp))
          have Y8 := Hd.mk (h3.blk HY.out (by simp))
          have SY : Hd (Sl w6 (some ⟨gy, 0, none⟩) (i64s (distFrq l)) (some gy)) := ⟨by have := sl_of_blk Y8.out; simpa [distFrq] using this⟩
          clear h1' h2 h3 HF HX HY SX
          simp only
          go_wp2_with (fail)
          refine (Lens.rlengths_any w6 15 (some ⟨gy, 0, none⟩) 30 30 (distFrq l) _ (frq_len _ _) SY.out (by omega)).mono ?_
          rintro r w7 hlp
          unfold Lens.LensPost at hlp
          obtain ⟨A9, n9, c9, rfl, h1', h2, h3⟩ := hlp
          rw [EB.out] at h1' ⊢
          have hn9 : n9 = 30 := by have := h1'.1; rw [i64s_length, ownDist_len] at this; omega
          subst hn9
          have O9 := Hd.mk h1'
          have NE9 : Hd (∀ k, (Value.slice A8 286 c8).ownBlock = some k → w.heap.size ≤ k ∧ (Value.slice A9 30 c9).ownBlock ≠ some k) := ⟨fun k hk => ⟨NW8.out k hk, fun h9 => by have := h2 k h9; have := own_lt O8.out hk; omega⟩⟩
          have NW9 : Hd (∀ k, (Value.slice A9 30 c9).ownBlock = some k → w.heap.size ≤ k) := ⟨fun k hk => by have := h2 k hk; have := F8.out.size; omega⟩
          have F9 := Hd.mk (F8.out.trans h3 (by simp))
          have O10 := Hd.mk (own_frame O8.out h3 (by simp))
          clear h1' h2 h3 F8 Y8 SY O8
          simp only
          go_wp2
          go_ret3
          exact ⟨fun _ => ⟨A8, c8, A9, c9, rfl, O10.out, O9.out, NE9.out, NW9.out, F9.out⟩, fun h => absurd HE.out.symm h⟩
  · have hne : (e != 0) = true := by simpa using h
    go_wp2
    go_ret3
    exact ⟨fun h' => absurd (HE.out.trans h') h, fun _ => ⟨by rw [← HE.out]; rfl, F1.out⟩⟩
def RPlPost (w w' : World) (e : Ending) : Prop := ∃ g h c d, e = .returned (.tuple #[.slice (some ⟨g, 0, none⟩) 288 c, .slice (some ⟨h, 0, none⟩) 32 d]) ∧ w'.ownsRow 0 3 1 (.slice (some ⟨g, 0, none⟩) 288 c) 288 (i64s plainLit) ∧ w'.ownsRow 0 3 1 (.slice (some ⟨h, 0, none⟩) 32 d) 32 (i64s plainDist) ∧ w.heap.size ≤ g ∧ w.heap.size ≤ h ∧ Fr w w' []
theorem fill_take (f : Nat → Int) (n j : Nat) (h : j < n) : (fill f n n).take (j + 1) = (fill f n n).take j ++ [f j] := by
  have hl : j < (fill f n n).length := by rw [fill_len]; exact h
  rw [List.take_succ_eq_append_getElem hl]
  congr 2
  simp [fill, h]
end Go.Proofs.YtkdgfioigkijgaaGreat.Blk
set_option linter.unusedVariables false
set_option linter.unusedSimpArgs false
set_option maxRecDepth 100000
namespace Go.Proofs.YtkdgfioigkijgaaGreat.Blk
open Go.RowKit Go.Proofs.YtkdgfioigkijgaaGreat.Lib Go.Proofs.YtkdgfioigkijgaaGreat.Ints Go.Proofs.YtkdgfioigkijgaaGreat.Lz
theorem aft_new {wo w : World} {q q' : Option Nat} (hB : ∀ x, q = some x → wo.heap.size ≤ x) (hs : wo.heap.size ≤ w.heap.size) {o : Obj} (h : Aft (w.alloc o) q q') : ∀ y, q' = some y → wo.heap.size ≤ y := by
  intro y hy
  rcases h with e | ⟨z, e, hz⟩
  · rw [e] at hy; exact hB y hy
  · rw [e] at hy; cases hy; simp at hz; omega
set_option maxHeartbeats 8000000 in
theorem rplainLens_any (w : World) : Calls Tryz.prog 55 #[] w fun e w' => RPlPost w w' e := by
  obtain ⟨i0, hi0, hz0, hz1, hz2⟩ := info_parts infoI64
  go_enter Tryz.func55, Tryz.ntmps55
  go_wp2
  go_loopg [2, 4] 288 (fun kq sv jv wr => ∃ (j : Nat) (A1 : Option Addr) (d1 : Nat), sv = .slice A1 j d1 ∧ jv = .int .i64 (j : Nat) ∧ j + kq = 288 ∧ Hd (wr.ownsRow 0 3 1 (.slice A1 j d1) j (i64s ((fill litF 288 288).take j))) ∧ Hd (∀ y, (Value.slice A1 j d1).ownBlock = some y → w.heap.size ≤ y) ∧ Hd (Fr w wr []))
  case atStart => exact ⟨0, none, 0, rfl, rfl, rfl, ⟨own_nil _ _ _ _⟩, ⟨by intro y hy; cases hy⟩, ⟨Fr.refl _ _⟩⟩
  case round =>
    obtain ⟨j, A1, d1, rfl, rfl, hj, HO, HB, HF⟩ := hrel
    by_cases h1 : j < 288
    · have HTK : Hd ((fill litF 288 288).take (j + 1) = (fill litF 288 288).take j ++ [litF j]) := ⟨fill_take litF 288 j h1⟩
      have HL : Hd (litF j = if j < 144 then 8 else if j < 256 then 9 else if j < 280 then 7 else 8) := ⟨rfl⟩
      by_cases h2 : j < 144
      · rw [HL.out, if_pos h2] at HTK
        go_wp2_with (at_builtin; refine wpList_append_sl rfl (.tmp 23) (.tmp 25) 79 rfl 3 i0 (.int .i64 0) 1 8 Tryz.underlying79 hi0 hz0 hz1 hz2 rfl (by decide) (.slice A1 j d1) j _ rfl (by exact HO.out.alloc _) (some ⟨wr.heap.size, 0, none⟩) 1 1 [.int .i64 8] (some wr.heap.size) rfl rfl (by exact sl_of_blk (blk_new _ _)) (by intro h; cases h) (by intro u hu; simp at hu; subst hu; rfl) (by unfold maxLen; omega) (by omega) ?_; intro A3 d3 w3 hown3 hgrow3 haft3; have O3 := Hd.mk hown3; have G3 := Hd.mk hgrow3; have AF3 := Hd.mk haft3; clear hown3 hgrow3 haft3)
        go_roundg (gk - 1)
        case measure => omega
        case rel => exact ⟨j + 1, A3, d3, rfl, by go_num, by omega, ⟨by rw [HTK.out, i64s_app]; exact O3.out⟩, ⟨aft_new HB.out HF.out.size AF3.out⟩, ⟨(HF.out.alloc _).grown G3.out (fun y hy => .inr (HB.out y hy))⟩⟩
      by_cases h3 : j < 256
      · rw [HL.out, if_neg h2, if_pos h3] at HTK
        have h2' : ¬ ((j : Int) < 144) := by omega
        go_wp2_with (at_builtin; refine wpList_append_sl rfl (.tmp 23) (.tmp 25) 79 rfl 3 i0 (.int .i64 0) 1 8 Tryz.underlying79 hi0 hz0 hz1 hz2 rfl (by decide) (.slice A1 j d1) j _ rfl (by exact HO.out.alloc _) (some ⟨wr.heap.size, 0, none⟩) 1 1 [.int .i64 9] (some wr.heap.size) rfl rfl (by exact sl_of_blk (blk_new _ _)) (by intro h; cases h) (by intro u hu; simp at hu; subst hu; rfl) (by unfold maxLen; omega) (by omega) ?_; intro A3 d3 w3 hown3 hgrow3 haft3; have O3 := Hd.mk hown3; have G3 := Hd.mk hgrow3; have AF3 := Hd.mk haft3; clear hown3 hgrow3 haft3)
        go_roundg (gk - 1)
        case measure => omega
        case rel => exact ⟨j + 1, A3, d3, rfl, by go_num, by omega, ⟨by rw [HTK.out, i64s_app]; exact O3.out⟩, ⟨aft_new HB.out HF.out.size AF3.out⟩, ⟨(HF.out.alloc _).grown G3.out (fun y hy => .inr (HB.out y hy))⟩⟩
      by_cases h4 : j < 280
      · rw [HL.out, if_neg h2, if_neg h3, if_pos h4] at HTK
        go_wp2_with (at_builtin; refine wpList_append_sl rfl (.tmp 23) (.tmp 25) 79 rfl 3 i0 (.int .i64 0) 1 8 Tryz.underlying79 hi0 hz0 hz1 hz2 rfl (by decide) (.slice A1 j d1) j _ rfl (by exact HO.out.alloc _) (some ⟨wr.heap.size, 0, none⟩) 1 1 [.int .i64 7] (some wr.heap.size) rfl rfl (by exact sl_of_blk (blk_new _ _)) (by intro h; cases h) (by intro u hu; simp at hu; subst hu; rfl) (by unfold maxLen; omega) (by omega) ?_; intro A3 d3 w3 hown3 hgrow3 haft3; have O3 := Hd.mk hown3; have G3 := Hd.mk hgrow3; have AF3 := Hd.mk haft3; clear hown3 hgrow3 haft3)
        go_roundg (gk - 1)
        case measure => omega
        case rel => exact ⟨j + 1, A3, d3, rfl, by go_num, by omega, ⟨by rw [HTK.out, i64s_app]; exact O3.out⟩, ⟨aft_new HB.out HF.out.size AF3.out⟩, ⟨(HF.out.alloc _).grown G3.out (fun y hy => .inr (HB.out y hy))⟩⟩
      · rw [HL.out, if_neg h2, if_neg h3, if_neg h4] at HTK
        go_wp2_with (at_builtin; refine wpList_append_sl rfl (.tmp 23) (.tmp 25) 79 rfl 3 i0 (.int .i64 0) 1 8 Tryz.underlying79 hi0 hz0 hz1 hz2 rfl (by decide) (.slice A1 j d1) j _ rfl (by exact HO.out.alloc _) (some ⟨wr.heap.size, 0, none⟩) 1 1 [.int .i64 8] (some wr.heap.size) rfl rfl (by exact sl_of_blk (blk_new _ _)) (by intro h; cases h) (by intro u hu; simp at hu; subst hu; rfl) (by unfold maxLen; omega) (by omega) ?_; intro A3 d3 w3 hown3 hgrow3 haft3; have O3 := Hd.mk hown3; have G3 := Hd.mk hgrow3; have AF3 := Hd.mk haft3; clear hown3 hgrow3 haft3)
        go_roundg (gk - 1)
        case measure => omega
        case rel => exact ⟨j + 1, A3, d3, rfl, by go_num, by omega, ⟨by rw [HTK.out, i64s_app]; exact O3.out⟩, ⟨aft_new HB.out HF.out.size AF3.out⟩, ⟨(HF.out.alloc _).grown G3.out (fun y hy => .inr (HB.out y hy))⟩⟩
    · obtain rfl : j = 288 := by omega
      have HO2 : Hd (wr.ownsRow 0 3 1 (.slice A1 288 d1) 288 (i64s plainLit)) := ⟨by have := HO.out; rwa [List.take_of_length_le (by rw [fill_len]; exact Nat.le_refl _)] at this⟩
      clear HO
      go_wp2
      go_loopg [3, 6] 32 (fun kq sv jv wq => ∃ (j : Nat) (A2 : Option Addr) (d2 : Nat), sv = .slice A2 j d2 ∧ jv = .int .i64 (j : Nat) ∧ j + kq = 32 ∧ Hd (wq.ownsRow 0 3 1 (.slice A2 j d2) j (i64s ((fill (fun _ => 5) 32 32).take j))) ∧ Hd (∀ y, (Value.slice A2 j d2).ownBlock = some y → wr.heap.size ≤ y) ∧ Hd (Fr wr wq []))
      case atStart => exact ⟨0, none, 0, rfl, rfl, rfl, ⟨own_nil _ _ _ _⟩, ⟨by intro y hy; cases hy⟩, ⟨Fr.refl _ _⟩⟩
      case round =>
        obtain ⟨j, A2, d2, rfl, rfl, hj, HO, HB2, HF2⟩ := hrel
        by_cases h1 : j < 32
        · have HTK : Hd ((fill (fun _ => 5) 32 32).take (j + 1) = (fill (fun _ => 5) 32 32).take j ++ [5]) := ⟨fill_take (fun _ => 5) 32 j h1⟩
          go_wp2_with (at_builtin; refine wpList_append_sl rfl (.tmp 31) (.tmp 32) 79 rfl 3 i0 (.int .i64 0) 1 8 Tryz.underlying79 hi0 hz0 hz1 hz2 rfl (by decide) (.slice A2 j d2) j _ rfl (by exact HO.out.alloc _) (some ⟨wr.heap.size, 0, none⟩) 1 1 [.int .i64 5] (some wr.heap.size) rfl rfl (by exact sl_of_blk (blk_new _ _)) (by intro h; cases h) (by intro u hu; simp at hu; subst hu; rfl) (by unfold maxLen; omega) (by omega) ?_; intro A3 d3 w3 hown3 hgrow3 haft3; have O3 := Hd.mk hown3; have G3 := Hd.mk hgrow3; have AF3 := Hd.mk haft3; clear hown3 hgrow3 haft3)
          go_roundg (gk - 1)
          case measure => omega
          case rel => exact ⟨j + 1, A3, d3, rfl, by go_num, by omega, ⟨by rw [HTK.out, i64s_app]; exact O3.out⟩, ⟨aft_new HB2.out HF2.out.size AF3.out⟩, ⟨(HF2.out.alloc _).grown G3.out (fun y hy => .inr (HB2.out y hy))⟩⟩
        · obtain rfl : j = 32 := by omega
          have HO3 := HO.out
          rw [List.take_of_length_le (by rw [fill_len]; exact Nat.le_refl _)] at HO3
          have OP := Hd.mk (own_frame HO2.out HF2.out (by simp))
          have OQ := Hd.mk HO3
          obtain ⟨g1, c1, e1, _⟩ := own_some HO2.out (by decide)
          injection e1 with e1 _ e2
          subst e1 e2
          obtain ⟨g2, c2, e1, _⟩ := own_some HO3 (by decide)
          injection e1 with e1 _ e2
          subst e1 e2
          have hb1 := HB.out g1 rfl
          have hb2 := HB2.out g2 rfl
          have hs := HF.out.size
          clear HO HO2 HO3
          go_wp2
          go_ret2
          exact ⟨g1, g2, d1, d2, rfl, OP.out, OQ.out, hb1, by omega, HF.out.trans HF2.out (by simp)⟩
end Go.Proofs.YtkdgfioigkijgaaGreat.Blk
set_option linter.unusedVariables false
set_option linter.unusedSimpArgs false
set_option maxRecDepth 100000
namespace Go.Proofs.YtkdgfioigkijgaaGreat.Blk
open Go.RowKit Go.Proofs.YtkdgfioigkijgaaGreat.Lib Go.Proofs.YtkdgfioigkijgaaGreat.Ints Go.Proofs.YtkdgfioigkijgaaGreat.Lz Go.Proofs.YtkdgfioigkijgaaGreat.Num Go.Proofs.YtkdgfioigkijgaaGreat.Bits
def RwPost (w w' : World) (gw N m : Nat) (q : Option Nat) (er : Int) (P : List (Nat × Nat)) : Prop := (er = 0 → ∃ q', Rw w w' gw q q' N m P) ∧ (er ≠ 0 → Fr w w' [])
theorem Rw.same {w0 w : World} {gw N m : Nat} {q0 q : Option Nat} {P Q : List (Nat × Nat)} (h : Rw w0 w gw q0 q N m P) (hn : numOf P = numOf Q) (ht : totOf P = totOf Q) : Rw w0 w gw q0 q N m Q := ⟨by rw [← hn, ← ht]; exact h.rw_, h.aft, h.fr⟩
theorem head3 (x y : Nat) (R : List (Nat × Nat)) : numOf ([(x + 2 * y, 3)] ++ R) = numOf ([(x, 1), (y, 2)] ++ R) ∧ totOf ([(x + 2 * y, 3)] ++ R) = totOf ([(x, 1), (y, 2)] ++ R) := by
  simp only [List.cons_append, List.nil_append, numOf, totOf, Nat.reducePow]
  omega
theorem xor16 {n : Nat} (h : n ≤ 65535) : Go.bits .xor .u64 (n : Int) 65535 = ((65535 - n : Nat) : Int) := by
  have hx := bits_xor_u64_nat n 65535 (by omega) (by decide)
  rw [show ((65535 : Nat) : Int) = 65535 from rfl] at hx
  rw [hx]
  congr 1
  apply Nat.eq_of_testBit_eq
  intro i
  rw [Nat.testBit_xor, show (65535 : Nat) = 2 ^ 16 - 1 from rfl, Nat.testBit_two_pow_sub_one, show 2 ^ 16 - 1 - n = 2 ^ 16 - (n + 1) from by omega, Nat.testBit_two_pow_sub_succ (by omega)]
  by_cases hi : i < 16
  · simp [hi]
  · have h1 : n.testBit i = false := Nat.testBit_lt_two_pow (Nat.lt_of_lt_of_le (show n < 2 ^ 16 by omega) (Nat.pow_le_pow_right (by decide) (by omega)))
    simp [hi, h1]
theorem rw_notown2 {w : World} {gw N m : Nat} {q : Option Nat} (h : RW w gw N m q) {base : Nat} {e : TypeId} {size n : Nat} {v : Value} {xs : List Value} (ho : w.ownsRow base e size v n xs) (h1 : e ≠ 30) (h2 : e ≠ 4) {k : Nat} (hk : v.ownBlock = some k) : k ∉ gw :: q.toList := by
  obtain ⟨cs, hcs⟩ := own_type ho hk
  exact rw_not h hcs h1 h2
theorem rw_notown {w : World} {gw N m : Nat} {q : Option Nat} (h : RW w gw N m q) {base : Nat} {e : TypeId} {size n g nn c : Nat} {xs : List Value} (ho : w.ownsRow base e size (.slice (some ⟨g, 0, none⟩) nn c) n xs) (h1 : e ≠ 30) (h2 : e ≠ 4) : g ∉ gw :: q.toList := rw_notown2 h ho h1 h2 rfl
set_option maxHeartbeats 8000000 in
theorem rbwrite0 (w : World) (b : Bool) (D : Option Addr) (cd : Nat) (data : List Int) (pd : Option Nat) (hD : Sl w D (u8s data) pd) (hby : ∀ x ∈ data, 0 ≤ x ∧ x ≤ 255) (hnd : data.length ≤ 17592186044416)
    (A : Option Addr) (n c : Nat) (l : List Tok) (p : Option Nat) (hn : l.length = n) (hS : Sl w A (tcells l) p) (hb : n ≤ 1048576) (hl : LitB l)
    (gw N m : Nat) (q : Option Nat) (hT : RW w gw N m q) (hp : ∀ k, p = some k → k ∉ gw :: q.toList ∧ k < w.heap.size) (hpd : ∀ k, pd = some k → k ∉ gw :: q.toList ∧ k < w.heap.size) (hm : m ≤ 35184372080000) (er : Int) (he : er = wrErr 0 data.length l) :
    Calls Tryz.prog 18 #[.pointer (some ⟨gw, 0, none⟩), .int .i64 0, .bool b, .slice D data.length cd, .slice A n c] w fun e w' => e = .returned (.int .i64 er) ∧ RwPost w w' gw N m q er (blockP 0 m b data l) := by
  obtain ⟨j0, hj0, jz0, jz1, jz2⟩ := info_parts Bits.infoBool
  have HS := Hd.mk hS
  have HL := Hd.mk hl
  have HP := Hd.mk hp
  have HD := Hd.mk hD
  have HBY := Hd.mk hby
  have HPD := Hd.mk hpd
  have T0 := Hd.mk hT
  have HE : Hd (er = if mayB l ≠ 0 then mayB l else if 65535 < Lz.sizeOf l then 90 else if data.length ≠ Lz.sizeOf l then 1 else 0) := ⟨by rw [he]; unfold wrErr; rw [if_neg (by omega)]; simp only [true_and]⟩
  have HBP : Hd (blockP 0 m b data l = [(lastN b, 1), (0, 2)] ++ kindP 0 (m + 3) data l) := ⟨rfl⟩
  clear hS hl hp hT he hD hby hpd
  obtain ⟨nd, hnd'⟩ : ∃ nd, nd = data.length := ⟨_, rfl⟩
  rw [← hnd'] at hnd HE ⊢
  have HND := Hd.mk hnd'
  clear hnd'
  obtain ⟨e, he⟩ : ∃ e, e = mayB l := ⟨_, rfl⟩
  rw [← he] at HE
  have HM := Hd.mk he
  clear he
  go_enter Tryz.func18, Tryz.ntmps18
  go_wp2_with (fail)
  refine (rmay_any w A n c l p hn HS.out (by omega) e HM.out).mono ?_
  rintro r w1 ⟨rfl, h1⟩
  have F1 := Hd.mk h1
  clear h1
  by_cases h : e = 0
  · subst h
    have HE2 : Hd (er = if 65535 < Lz.sizeOf l then 90 else if nd ≠ Lz.sizeOf l then 1 else 0) := ⟨by rw [HE.out, if_neg (by simp)]⟩
    have hz := mayB_zero HM.out.symm
    have HZ := Hd.mk hz.2
    have hz1 := hz.1
    clear hz HE
    have hsz := Lz.sizeOf_le l
    obtain ⟨s, hs⟩ : ∃ s, s = Lz.sizeOf l := ⟨_, rfl⟩
    rw [← hs] at HE2 hsz
    have HSZ := Hd.mk hs
    clear hs
    go_wp2_with (fail)
    refine (rsize_any w1 A n c l p hn (HS.out.frame F1.out (by simp)) (by omega)).mono ?_
    rintro r w2 ⟨rfl, h2⟩
    rw [← HSZ.out]
    have F2 := Hd.mk (F1.out.trans h2 (by simp))
    clear h2 F1
    by_cases hbig : 65535 < s
    · obtain rfl : er = 90 := by rw [HE2.out, if_pos hbig]
      have hbI : (65535 : Int) < (s : Nat) := by omega
      clear HE2
      go_wp2
      go_ret
      exact ⟨rfl, (fun h => by cases h), fun _ => F2.out⟩
    · have HE3 : Hd (er = if nd ≠ s then 1 else 0) := ⟨by rw [HE2.out, if_neg hbig]⟩
      have hbI : ¬ (65535 : Int) < (s : Nat) := by omega
      clear HE2
      go_wp2_with (fail)
      refine (rsize_any w2 A n c l p hn (HS.out.frame F2.out (by simp)) (by omega)).mono ?_
      rintro r w3 ⟨rfl, h2⟩
      rw [← HSZ.out]
      have F3 := Hd.mk (F2.out.trans h2 (by simp))
      clear h2 F2
      by_cases hns : nd = s
      · subst hns
        obtain rfl : er = 0 := by rw [HE3.out, if_neg (by simp)]
        have hne : ((nd : Int) != (nd : Int)) = false := by simp
        clear HE3
        have T3 := Hd.mk (T0.out.frame F3.out (by simp) (by simp))
        obtain ⟨V, hV⟩ : ∃ V, V = lastN b + 2 * 0 := ⟨_, rfl⟩
        have HV : Hd (V < 2 ^ 3) := ⟨by rw [hV]; cases b <;> decide⟩
        have HBB : Hd ([Value.bool b, .bool false, .bool false] = bools V 3) := ⟨by rw [hV]; cases b <;> rfl⟩
        have HVE := Hd.mk hV
        have hb1 : (Go.bits .and .i64 (0 : Int) 1 == 1) = false := by decide +kernel
        have hb2 : (Go.bits .and .i64 (0 : Int) 2 == 2) = false := by decide +kernel
        obtain ⟨Ax, cx, hxb, hxo, hxp, hxN⟩ := T3.out
        have XB := Hd.mk hxb
        have XO := Hd.mk hxo
        have XP := Hd.mk hxp
        have XN := Hd.mk hxN
        have NEX := Hd.mk (own_ne hxo hxb (by decide))
        have x0 := blk_cell hxb 0
        simp only [List.getElem?_toArray, List.getElem?_cons_zero] at x0
        clear hV hxb hxo hxp hxN
        go_wp2_with (at_builtin; refine wpList_append_sl rfl (.tmp 45) (.tmp 53) 28 rfl 4 j0 (.bool false) 1 1 Tryz.underlying28 hj0 jz0 jz1 jz2 rfl (by decide) (.slice Ax m cx) m _ rfl (by exact XO.out.alloc _) (some ⟨w3.heap.size, 0, none⟩) 3 3 [.bool b, .bool false, .bool false] (some w3.heap.size) rfl rfl (by exact sl_of_blk (blk_new _ _)) (by intro h; cases h) (by intro u hu; simp at hu; rcases hu with rfl | rfl | rfl <;> rfl) (by unfold maxLen; omega) (by omega) ?_; intro A3 d3 w9 hown' hgrow haft; have B9 := blk_grown hgrow (by exact blk_alloc XB.out _) NEX.out.symm; have y0 := blk_cell B9 0; have yf := blk_frozen B9 0; simp only [List.getElem?_toArray, List.getElem?_cons_zero] at y0; rw [HBB.out] at hown'; have HPR := Hd.mk (PutR.after ((Fr.refl w3 []).alloc (.cells #[.bool b, .bool false, .bool false] 4)) (rw_app (by exact blk_alloc XB.out _) (by exact XO.out.alloc _) XN.out HV.out hown' hgrow haft)); rw [XP.out] at HPR; clear hown' hgrow haft B9)
        generalize w9.setCell ⟨gw, 0, none⟩ (.slice A3 (m + 3) d3) = w4 at *
        obtain ⟨q4, h4⟩ := (Rw.start T3.out).put (by simpa [numOf, totOf] using HPR.out)
        have W4 : Hd (Rw w w4 gw q q4 N m [(V, 3)]) := ⟨Rw.after F3.out h4⟩
        have t4 : totOf [(V, 3)] = 3 := rfl
        clear h4 HPR XB XO XP XN NEX x0 T3 HBB hb1 hb2 hne HV
        have hxor := xor16 (n := nd) (by omega)
        have HKP : Hd (kindP 0 (m + 3) data l = [(0, (8 - (m + 3) % 8) % 8), (nd, 16), (65535 - nd, 16)] ++ bytesP data) := ⟨by rw [HND.out]; rfl⟩
        refine (walign_any w4 (by omega) W4.out.rw_).mono ?_
        rintro r w5 ⟨rfl, q5, h1, h2, h3⟩
        rw [t4] at h1
        obtain ⟨q5', h5⟩ := W4.out.put (p := (0, (8 - (m + 3) % 8) % 8)) ⟨q5, by simpa [numOf, totOf, t4] using h1, h2, h3⟩
        have W5 := Hd.mk h5
        have t5 : totOf ([(V, 3)] ++ [(0, (8 - (m + 3) % 8) % 8)]) = 3 + (8 - (m + 3) % 8) % 8 := rfl
        clear h1 h2 h3 h5 W4
        go_wp2_with (fail)
        refine (rwput (nd : Int) 16 nd rfl (by have : (2 : Nat) ^ (16 : Int).toNat = 65536 := rfl; omega) (by omega) (by omega) W5.out.rw_ (by have : (16 : Int).toNat = 16 := rfl; omega)).mono ?_
        rintro r w6 ⟨rfl, hpl⟩
        obtain ⟨q6, h2⟩ := W5.out.put hpl
        have W6 : Hd (Rw w w6 gw q q6 N m ([(V, 3)] ++ [(0, (8 - (m + 3) % 8) % 8)] ++ [(nd, 16)])) := ⟨h2⟩
        have t6 : totOf ([(V, 3)] ++ [(0, (8 - (m + 3) % 8) % 8)] ++ [(nd, 16)]) = 3 + ((8 - (m + 3) % 8) % 8 + 16) := rfl
        clear hpl h2 W5 t5
        go_wp2_with (fail)
        refine (rwput ((65535 - nd : Nat) : Int) 16 (65535 - nd) rfl (by have : (2 : Nat) ^ (16 : Int).toNat = 65536 := rfl; omega) (by omega) (by omega) W6.out.rw_ (by have : (16 : Int).toNat = 16 := rfl; omega)).mono ?_
        rintro r w7 ⟨rfl, hpl⟩
        obtain ⟨q7, h2⟩ := W6.out.put hpl
        have W7 : Hd (Rw w w7 gw q q7 N m ([(V, 3)] ++ [(0, (8 - (m + 3) % 8) % 8), (nd, 16), (65535 - nd, 16)])) := ⟨h2⟩
        have t7 : totOf ([(V, 3)] ++ [(0, (8 - (m + 3) % 8) % 8), (nd, 16), (65535 - nd, 16)]) = 3 + ((8 - (m + 3) % 8) % 8 + 32) := rfl
        clear hpl h2 W6 t6
        have hal : (8 - (m + totOf ([(V, 3)] ++ [(0, (8 - (m + 3) % 8) % 8), (nd, 16), (65535 - nd, 16)])) % 8) % 8 = 0 := by rw [t7]; omega
        go_wp2_with (fail)
        refine (wwhole_any w7 D nd cd data pd HND.out.symm HBY.out (HD.out.frame W7.out.fr (fun k hk => (HPD.out k hk).1)) (fun k hk hm => (HPD.out k hk).1 (W7.out.mem (HPD.out k hk).2 hm)) (by rw [t7]; omega) W7.out.rw_).mono ?_
        rintro r w8 ⟨rfl, q8, h1, h2, h3⟩
        rw [hal, Nat.add_zero] at h1
        have h8 : Rw w7 w8 gw q7 q8 (N + numOf ([(V, 3)] ++ [(0, (8 - (m + 3) % 8) % 8), (nd, 16), (65535 - nd, 16)]) * 2 ^ m) (m + totOf ([(V, 3)] ++ [(0, (8 - (m + 3) % 8) % 8), (nd, 16), (65535 - nd, 16)])) (bytesP data) := ⟨by rw [bytesP_num, bytesP_tot, ← HND.out]; exact h1, h2, h3⟩
        have h9 := W7.out.more h8
        rw [List.append_assoc, ← HKP.out] at h9
        have W8 := Hd.mk h9
        clear h1 h2 h3 h8 h9 W7
        go_wp2
        go_ret
        exact ⟨rfl, (fun _ => ⟨q8, by
          rw [HBP.out]
          have h := W8.out
          rw [HVE.out] at h
          have e := head3 (lastN b) 0 (kindP 0 (m + 3) data l)
          exact h.same e.1 e.2⟩), fun h => absurd rfl h⟩
      · obtain rfl : er = 1 := by rw [HE3.out, if_pos hns]
        have hne : ((nd : Int) != (s : Int)) = true := by simp; omega
        clear HE3
        go_wp2
        go_ret
        exact ⟨rfl, (fun h => by cases h), fun _ => F3.out⟩
  · have hne : (e != 0) = true := by simpa using h
    obtain rfl : er = e := by rw [HE.out, if_pos h]
    have HNE := Hd.mk h
    clear HE h
    go_wp2
    go_ret
    exact ⟨rfl, (fun h => absurd h HNE.out), fun _ => F1.out⟩
set_option maxHeartbeats 8000000 in
theorem rbwrite1 (w : World) (b : Bool) (D : Option Addr) (cd : Nat) (data : List Int) (pd : Option Nat) (hD : Sl w D (u8s data) pd) (hby : ∀ x ∈ data, 0 ≤ x ∧ x ≤ 255) (hnd : data.length ≤ 17592186044416)
    (A : Option Addr) (n c : Nat) (l : List Tok) (p : Option Nat) (hn : l.length = n) (hS : Sl w A (tcells l) p) (hb : n ≤ 1048576) (hl : LitB l)
    (gw N m : Nat) (q : Option Nat) (hT : RW w gw N m q) (hp : ∀ k, p = some k → k ∉ gw :: q.toList ∧ k < w.heap.size) (hpd : ∀ k, pd = some k → k ∉ gw :: q.toList ∧ k < w.heap.size) (hm : m ≤ 35184372080000) (er : Int) (he : er = wrErr 1 data.length l) :
    Calls Tryz.prog 18 #[.pointer (some ⟨gw, 0, none⟩), .int .i64 1, .bool b, .slice D data.length cd, .slice A n c] w fun e w' => e = .returned (.int .i64 er) ∧ RwPost w w' gw N m q er (blockP 1 m b data l) := by
  obtain ⟨j0, hj0, jz0, jz1, jz2⟩ := info_parts Bits.infoBool
  have HS := Hd.mk hS
  have HL := Hd.mk hl
  have HP := Hd.mk hp
  have HD := Hd.mk hD
  have HBY := Hd.mk hby
  have HPD := Hd.mk hpd
  have T0 := Hd.mk hT
  have HE : Hd (er = if mayB l ≠ 0 then mayB l else if data.length ≠ Lz.sizeOf l then 1 else 0) := ⟨by rw [he]; unfold wrErr; rw [if_neg (by omega)]; simp only [show ((1 : Int) = 0) = False from by simp, false_and, if_false]⟩
  have HBP : Hd (blockP 1 m b data l = [(lastN b, 1), (1, 2)] ++ kindP 1 (m + 3) data l) := ⟨rfl⟩
  clear hS hl hp hT he hD hby hpd
  obtain ⟨nd, hnd'⟩ : ∃ nd, nd = data.length := ⟨_, rfl⟩
  rw [← hnd'] at hnd HE ⊢
  have HND := Hd.mk hnd'
  clear hnd'
  obtain ⟨e, he⟩ : ∃ e, e = mayB l := ⟨_, rfl⟩
  rw [← he] at HE
  have HM := Hd.mk he
  clear he
  go_enter Tryz.func18, Tryz.ntmps18
  go_wp2_with (fail)
  refine (rmay_any w A n c l p hn HS.out (by omega) e HM.out).mono ?_
  rintro r w1 ⟨rfl, h1⟩
  have F1 := Hd.mk h1
  clear h1
  by_cases h : e = 0
  · subst h
    have HE2 : Hd (er = if nd ≠ Lz.sizeOf l then 1 else 0) := ⟨by rw [HE.out, if_neg (by simp)]⟩
    have hz := mayB_zero HM.out.symm
    have HZ := Hd.mk hz.2
    have hz1 := hz.1
    clear hz HE
    have hsz := Lz.sizeOf_le l
    obtain ⟨s, hs⟩ : ∃ s, s = Lz.sizeOf l := ⟨_, rfl⟩
    rw [← hs] at HE2 hsz
    have HSZ := Hd.mk hs
    clear hs
    have HE3 : Hd (er = if nd ≠ s then 1 else 0) := ⟨HE2.out⟩
    clear HE2
    go_wp2_with (fail)
    refine (rsize_any w1 A n c l p hn (HS.out.frame F1.out (by simp)) (by omega)).mono ?_
    rintro r w3 ⟨rfl, h2⟩
    rw [← HSZ.out]
    have F3 := Hd.mk (F1.out.trans h2 (by simp))
    clear h2 F1
    by_cases hns : nd = s
    · subst hns
      obtain rfl : er = 0 := by rw [HE3.out, if_neg (by simp)]
      have hne : ((nd : Int) != (nd : Int)) = false := by simp
      clear HE3
      have T3 := Hd.mk (T0.out.frame F3.out (by simp) (by simp))
      obtain ⟨V, hV⟩ : ∃ V, V = lastN b + 2 * 1 := ⟨_, rfl⟩
      have HV : Hd (V < 2 ^ 3) := ⟨by rw [hV]; cases b <;> decide⟩
      have HBB : Hd ([Value.bool b, .bool true, .bool false] = bools V 3) := ⟨by rw [hV]; cases b <;> rfl⟩
      have HVE := Hd.mk hV
      have hb1 : (Go.bits .and .i64 (1 : Int) 1 == 1) = true := by decide +kernel
      have hb2 : (Go.bits .and .i64 (1 : Int) 2 == 2) = false := by decide +kernel
      obtain ⟨Ax, cx, hxb, hxo, hxp, hxN⟩ := T3.out
      have XB := Hd.mk hxb
      have XO := Hd.mk hxo
      have XP := Hd.mk hxp
      have XN := Hd.mk hxN
      have NEX := Hd.mk (own_ne hxo hxb (by decide))
      have x0 := blk_cell hxb 0
      simp only [List.getElem?_toArray, List.getElem?_cons_zero] at x0
      clear hV hxb hxo hxp hxN
      go_wp2_with (at_builtin; refine wpList_append_sl rfl (.tmp 45) (.tmp 53) 28 rfl 4 j0 (.bool false) 1 1 Tryz.underlying28 hj0 jz0 jz1 jz2 rfl (by decide) (.slice Ax m cx) m _ rfl (by exact XO.out.alloc _) (some ⟨w3.heap.size, 0, none⟩) 3 3 [.bool b, .bool true, .bool false] (some w3.heap.size) rfl rfl (by exact sl_of_blk (blk_new _ _)) (by intro h; cases h) (by intro u hu; simp at hu; rcases hu with rfl | rfl | rfl <;> rfl) (by unfold maxLen; omega) (by omega) ?_; intro A3 d3 w9 hown' hgrow haft; have B9 := blk_grown hgrow (by exact blk_alloc XB.out _) NEX.out.symm; have y0 := blk_cell B9 0; have yf := blk_frozen B9 0; simp only [List.getElem?_toArray, List.getElem?_cons_zero] at y0; rw [HBB.out] at hown'; have HPR := Hd.mk (PutR.after ((Fr.refl w3 []).alloc (.cells #[.bool b, .bool true, .bool false] 4)) (rw_app (by exact blk_alloc XB.out _) (by exact XO.out.alloc _) XN.out HV.out hown' hgrow haft)); rw [XP.out] at HPR; clear hown' hgrow haft B9)
      generalize w9.setCell ⟨gw, 0, none⟩ (.slice A3 (m + 3) d3) = w4 at *
      obtain ⟨q4, h4⟩ := (Rw.start T3.out).put (by simpa [numOf, totOf] using HPR.out)
      have W4 : Hd (Rw w w4 gw q q4 N m [(V, 3)]) := ⟨Rw.after F3.out h4⟩
      have t4 : totOf [(V, 3)] = 3 := rfl
      clear h4 HPR XB XO XP XN NEX x0 T3 HBB hb1 hb2 hne HV
      have HKP : Hd (kindP 1 (m + 3) data l = bodyP plainLit plainDist l) := ⟨rfl⟩
      refine (rplainLens_any w4).mono ?_
      rintro r w5 hp5
      unfold RPlPost at hp5
      obtain ⟨g, g', c5, d5, rfl, h1, h2, h3, h4, h5⟩ := hp5
      have O1 := Hd.mk h1
      have O2 := Hd.mk h2
      have W5 := Hd.mk (W4.out.call h5)
      clear h1 h2 h3 h4 h5
      go_wp2_with (fail)
      refine (rbody_any w5 (some ⟨g, 0, none⟩) (some ⟨g', 0, none⟩) 288 c5 32 d5 plainLit plainDist (some g) (some g') (slArg_own O1.out) (slArg_own O2.out) plainLit_check plainDist_check A n c l p hn (HS.out.frame W5.out.fr (fun k hk => (HP.out k hk).1)) (by omega) HZ.out HL.out gw _ _ q4 W5.out.rw_ (fun k hk hm => (HP.out k hk).1 (W5.out.mem (HP.out k hk).2 hm)) (fun k hk => by cases hk; exact rw_notown W5.out.rw_ O1.out (by decide) (by decide)) (fun k hk => by cases hk; exact rw_notown W5.out.rw_ O2.out (by decide) (by decide)) (by rw [t4]; omega)).mono ?_
      rintro r w6 ⟨rfl, q6, h6⟩
      have h9 := W5.out.more h6
      rw [← HKP.out] at h9
      have W6 := Hd.mk h9
      clear h6 h9 W5
      go_wp2
      go_ret
      exact ⟨rfl, (fun _ => ⟨q6, by
        rw [HBP.out]
        have h := W6.out
        rw [HVE.out] at h
        have e := head3 (lastN b) 1 (kindP 1 (m + 3) data l)
        exact h.same e.1 e.2⟩), fun h => absurd rfl h⟩
    · obtain rfl : er = 1 := by rw [HE3.out, if_pos hns]
      have hne : ((nd : Int) != (s : Int)) = true := by simp; omega
      clear HE3
      go_wp2
      go_ret
      exact ⟨rfl, (fun h => by cases h), fun _ => F3.out⟩
  · have hne : (e != 0) = true := by simpa using h
    obtain rfl : er = e := by rw [HE.out, if_pos h]
    have HNE := Hd.mk h
    clear HE h
    go_wp2
    go_ret
    exact ⟨rfl, (fun h => absurd h HNE.out), fun _ => F1.out⟩
set_option maxHeartbeats 8000000 in
theorem rbwrite2 (w : World) (b : Bool) (D : Option Addr) (cd : Nat) (data : List Int) (pd : Option Nat) (hD : Sl w D (u8s data) pd) (hby : ∀ x ∈ data, 0 ≤ x ∧ x ≤ 255) (hnd : data.length ≤ 17592186044416)
    (A : Option Addr) (n c : Nat) (l : List Tok) (p : Option Nat) (hn : l.length = n) (hS : Sl w A (tcells l) p) (hb : n ≤ 1048576) (hl : LitB l)
    (gw N m : Nat) (q : Option Nat) (hT : RW w gw N m q) (hp : ∀ k, p = some k → k ∉ gw :: q.toList ∧ k < w.heap.size) (hpd : ∀ k, pd = some k → k ∉ gw :: q.toList ∧ k < w.heap.size) (hm : m ≤ 35184372080000) (er : Int) (he : er = wrErr 2 data.length l) :
    Calls Tryz.prog 18 #[.pointer (some ⟨gw, 0, none⟩), .int .i64 2, .bool b, .slice D data.length cd, .slice A n c] w fun e w' => e = .returned (.int .i64 er) ∧ RwPost w w' gw N m q er (blockP 2 m b data l) := by
  obtain ⟨j0, hj0, jz0, jz1, jz2⟩ := info_parts Bits.infoBool
  have HS := Hd.mk hS
  have HL := Hd.mk hl
  have HP := Hd.mk hp
  have HD := Hd.mk hD
  have HBY := Hd.mk hby
  have HPD := Hd.mk hpd
  have T0 := Hd.mk hT
  have HE : Hd (er = if mayB l ≠ 0 then mayB l else if data.length ≠ Lz.sizeOf l then 1 else 0) := ⟨by rw [he]; unfold wrErr; rw [if_neg (by omega)]; simp only [show ((2 : Int) = 0) = False from by simp, false_and, if_false]⟩
  have HBP : Hd (blockP 2 m b data l = [(lastN b, 1), (2, 2)] ++ kindP 2 (m + 3) data l) := ⟨rfl⟩
  clear hS hl hp hT he hD hby hpd
  obtain ⟨nd, hnd'⟩ : ∃ nd, nd = data.length := ⟨_, rfl⟩
  rw [← hnd'] at hnd HE ⊢
  have HND := Hd.mk hnd'
  clear hnd'
  obtain ⟨e, he⟩ : ∃ e, e = mayB l := ⟨_, rfl⟩
  rw [← he] at HE
  have HM := Hd.mk he
  clear he
  go_enter Tryz.func18, Tryz.ntmps18
  go_wp2_with (fail)
  refine (rmay_any w A n c l p hn HS.out (by omega) e HM.out).mono ?_
  rintro r w1 ⟨rfl, h1⟩
  have F1 := Hd.mk h1
  clear h1
  by_cases h : e = 0
  · subst h
    have HE2 : Hd (er = if nd ≠ Lz.sizeOf l then 1 else 0) := ⟨by rw [HE.out, if_neg (by simp)]⟩
    have hz := mayB_zero HM.out.symm
    have HZ := Hd.mk hz.2
    have hz1 := hz.1
    clear hz HE
    have hsz := Lz.sizeOf_le l
    obtain ⟨s, hs⟩ : ∃ s, s = Lz.sizeOf l := ⟨_, rfl⟩
    rw [← hs] at HE2 hsz
    have HSZ := Hd.mk hs
    clear hs
    have HE3 : Hd (er = if nd ≠ s then 1 else 0) := ⟨HE2.out⟩
    clear HE2
    go_wp2_with (fail)
    refine (rsize_any w1 A n c l p hn (HS.out.frame F1.out (by simp)) (by omega)).mono ?_
    rintro r w3 ⟨rfl, h2⟩
    rw [← HSZ.out]
    have F3 := Hd.mk (F1.out.trans h2 (by simp))
    clear h2 F1
    by_cases hns : nd = s
    · subst hns
      obtain rfl : er = 0 := by rw [HE3.out, if_neg (by simp)]
      have hne : ((nd : Int) != (nd : Int)) = false := by simp
      clear HE3
      have T3 := Hd.mk (T0.out.frame F3.out (by simp) (by simp))
      obtain ⟨V, hV⟩ : ∃ V, V = lastN b + 2 * 2 := ⟨_, rfl⟩
      have HV : Hd (V < 2 ^ 3) := ⟨by rw [hV]; cases b <;> decide⟩
      have HBB : Hd ([Value.bool b, .bool false, .bool true] = bools V 3) := ⟨by rw [hV]; cases b <;> rfl⟩
      have HVE := Hd.mk hV
      have hb1 : (Go.bits .and .i64 (2 : Int) 1 == 1) = false := by decide +kernel
      have hb2 : (Go.bits .and .i64 (2 : Int) 2 == 2) = true := by decide +kernel
      obtain ⟨Ax, cx, hxb, hxo, hxp, hxN⟩ := T3.out
      have XB := Hd.mk hxb
      have XO := Hd.mk hxo
      have XP := Hd.mk hxp
      have XN := Hd.mk hxN
      have NEX := Hd.mk (own_ne hxo hxb (by decide))
      have x0 := blk_cell hxb 0
      simp only [List.getElem?_toArray, List.getElem?_cons_zero] at x0
      clear hV hxb hxo hxp hxN
      go_wp2_with (at_builtin; refine wpList_append_sl rfl (.tmp 45) (.tmp 53) 28 rfl 4 j0 (.bool false) 1 1 Tryz.underlying28 hj0 jz0 jz1 jz2 rfl (by decide) (.slice Ax m cx) m _ rfl (by exact XO.out.alloc _) (some ⟨w3.heap.size, 0, none⟩) 3 3 [.bool b, .bool false, .bool true] (some w3.heap.size) rfl rfl (by exact sl_of_blk (blk_new _ _)) (by intro h; cases h) (by intro u hu; simp at hu; rcases hu with rfl | rfl | rfl <;> rfl) (by unfold maxLen; omega) (by omega) ?_; intro A3 d3 w9 hown' hgrow haft; have B9 := blk_grown hgrow (by exact blk_alloc XB.out _) NEX.out.symm; have y0 := blk_cell B9 0; have yf := blk_frozen B9 0; simp only [List.getElem?_toArray, List.getElem?_cons_zero] at y0; rw [HBB.out] at hown'; have HPR := Hd.mk (PutR.after ((Fr.refl w3 []).alloc (.cells #[.bool b, .bool false, .bool true] 4)) (rw_app (by exact blk_alloc XB.out _) (by exact XO.out.alloc _) XN.out HV.out hown' hgrow haft)); rw [XP.out] at HPR; clear hown' hgrow haft B9)
      generalize w9.setCell ⟨gw, 0, none⟩ (.slice A3 (m + 3) d3) = w4 at *
      obtain ⟨q4, h4⟩ := (Rw.start T3.out).put (by simpa [numOf, totOf] using HPR.out)
      have W4 : Hd (Rw w w4 gw q q4 N m [(V, 3)]) := ⟨Rw.after F3.out h4⟩
      have t4 : totOf [(V, 3)] = 3 := rfl
      clear h4 HPR XB XO XP XN NEX x0 T3 HBB hb1 hb2 hne HV
      have HKP : Hd (kindP 2 (m + 3) data l = Head.headP (ownLit l) (ownDist l) ++ bodyP (ownLit l) (ownDist l) l) := ⟨rfl⟩
      refine (rownLens_any w4 A n c l p hn (HS.out.frame W4.out.fr (fun k hk => (HP.out k hk).1)) (by omega) HL.out).mono ?_
      rintro r w5 hp5
      unfold OwnPost at hp5
      obtain ⟨A1, c1, B1, d1, rfl, h1, h2, _, _, h3⟩ := hp5.1 HM.out.symm
      have O1 := Hd.mk h1
      have O2 := Hd.mk h2
      have W5 := Hd.mk (W4.out.call h3)
      clear h1 h2 h3 hp5 W4
      go_wp2_with (fail)
      refine (Head.rwrite_any w5 A1 B1 286 c1 30 d1 (ownLit l) (ownDist l) _ _ (slArg_own O1.out) (slArg_own O2.out) 0 (by rw [own_okH]; rfl) gw _ _ q4 W5.out.rw_ (by rw [t4]; omega)).mono ?_
      rintro r w6 ⟨rfl, hw⟩
      unfold Head.WrR at hw
      obtain ⟨q6, h6⟩ := hw.1 (own_okH l)
      have O3 := Hd.mk (rown_keep W5.out.rw_ h6.fr O1.out (by decide) (by decide))
      have O4 := Hd.mk (rown_keep W5.out.rw_ h6.fr O2.out (by decide) (by decide))
      have W6 := Hd.mk (W5.out.more h6)
      have ht := headP_tot l
      have t6 : totOf ([(V, 3)] ++ Head.headP (ownLit l) (ownDist l)) = 3 + totOf (Head.headP (ownLit l) (ownDist l)) := by rw [totOf_app]; rfl
      clear hw h6 O1 O2 W5
      go_wp2_with (fail)
      refine (rbody_any w6 A1 B1 286 c1 30 d1 (ownLit l) (ownDist l) _ _ (slArg_own O3.out) (slArg_own O4.out) (ownLit_check l) (ownDist_check l) A n c l p hn (HS.out.frame W6.out.fr (fun k hk => (HP.out k hk).1)) (by omega) HZ.out HL.out gw _ _ q6 W6.out.rw_ (fun k hk hm => (HP.out k hk).1 (W6.out.mem (HP.out k hk).2 hm)) (fun k hk => rw_notown2 W6.out.rw_ O3.out (by decide) (by decide) hk) (fun k hk => rw_notown2 W6.out.rw_ O4.out (by decide) (by decide) hk) (by rw [t6]; omega)).mono ?_
      rintro r w7 ⟨rfl, q7, h7⟩
      have h9 := W6.out.more h7
      rw [List.append_assoc, ← HKP.out] at h9
      have W7 := Hd.mk h9
      clear h7 h9 W6
      go_wp2
      go_ret
      exact ⟨rfl, (fun _ => ⟨q7, by
        rw [HBP.out]
        have h := W7.out
        rw [HVE.out] at h
        have e := head3 (lastN b) 2 (kindP 2 (m + 3) data l)
        exact h.same e.1 e.2⟩), fun h => absurd rfl h⟩
    · obtain rfl : er = 1 := by rw [HE3.out, if_pos hns]
      have hne : ((nd : Int) != (s : Int)) = true := by simp; omega
      clear HE3
      go_wp2
      go_ret
      exact ⟨rfl, (fun h => by cases h), fun _ => F3.out⟩
  · have hne : (e != 0) = true := by simpa using h
    obtain rfl : er = e := by rw [HE.out, if_pos h]
    have HNE := Hd.mk h
    clear HE h
    go_wp2
    go_ret
    exact ⟨rfl, (fun h => absurd h HNE.out), fun _ => F1.out⟩
end Go.Proofs.YtkdgfioigkijgaaGreat.Blk
