/- Texts of this claim, one behind the other: BlkS, HeadRow, HeadRuns, HeadRuns2, HeadLens, HeadPlan. -/
import Derived.Test.YtkdgfioigkijgaaQ01
import Derived.Test.YtkdgfioigkijgaaQ02
import Derived.Test.YtkdgfioigkijgaaQ03
import Derived.Test.YtkdgfioigkijgaaQ04
import Derived.Test.YtkdgfioigkijgaaQ05
import Derived.Test.YtkdgfioigkijgaaQ06
import Derived.Test.YtkdgfioigkijgaaQ07
import Derived.Test.YtkdgfioigkijgaaQ08
import Derived.Test.YtkdgfioigkijgaaQ09
import Derived.BigRegion
import Derived.BigQuiet
import Derived.Deep.QuietTactic
import Derived.Deep.LoopGhost
import Derived.Deep.DeepCutAuto
import Derived.KernelRfl
import Derived.Deep.RegionLaw
import Derived.Outline
import Derived.Deep.CutBlock
/- Chapter 09: the lengths of a block's own codes. Conditions: at most 2^40 tokens. -/
set_option linter.unusedVariables false
set_option linter.unusedSimpArgs false
set_option maxRecDepth 100000
namespace Go.Proofs.Ytkdgfioigkijgaa.Blk
open Go.RowKit Go.Proofs.Ytkdgfioigkijgaa.Lib Go.Proofs.Ytkdgfioigkijgaa.Ints Go.Proofs.Ytkdgfioigkijgaa.Lz
/-! ### counts -/
def frq (N : Nat) (xs : List Int) : List Int := (List.range N).map fun i => (Code.cnt xs i : Int)
theorem frq_len (N : Nat) (xs : List Int) : (frq N xs).length = N := by simp [frq]
theorem cnt_snoc (xs : List Int) (x : Int) (i : Nat) : Code.cnt (xs ++ [x]) i = Code.cnt xs i + if x = (i : Int) then 1 else 0 := by
  unfold Code.cnt
  rw [List.countP_append, List.countP_cons, List.countP_nil]
  by_cases h : x = (i : Int) <;> simp [h]
theorem cnt_le (xs : List Int) (i : Nat) : Code.cnt xs i ≤ xs.length := List.countP_le_length
theorem frq_get {N : Nat} (xs : List Int) {s : Nat} (h : s < N) : (i64s (frq N xs)).toArray[s]? = some (.int .i64 (Code.cnt xs s : Nat)) := by
  rw [List.getElem?_toArray, i64s_get]; simp [frq, h]
theorem frq_set {N : Nat} (xs : List Int) {s : Nat} (h : s < N) : (i64s (frq N xs)).toArray.setIfInBounds s (.int .i64 ((Code.cnt xs s : Nat) + 1 : Int)) = (i64s (frq N (xs ++ [(s : Int)]))).toArray := by
  apply Array.ext_getElem?
  intro k
  rw [Array.getElem?_setIfInBounds]
  by_cases hk : k < N
  · rw [frq_get _ hk, frq_get _ hk, cnt_snoc]
    by_cases e : s = k
    · subst e
      rw [if_pos rfl, if_pos (by simp [i64s, frq]; exact h), if_pos rfl]
      rfl
    · rw [if_neg e, if_neg (by omega), Nat.add_zero]
  · rw [if_neg (by omega)]
    simp only [List.getElem?_toArray]
    rw [List.getElem?_eq_none (by simp [i64s, frq]; omega), List.getElem?_eq_none (by simp [i64s, frq]; omega)]
theorem frq_fine {N : Nat} {xs : List Int} (h : xs.length ≤ 1099511627776) (hN : N ≤ 288) : Lens.cn (frq N xs) = 0 := by
  unfold Lens.cn
  rw [if_neg (by rw [frq_len]; omega), Lens.out_false, if_neg (by decide)]
  intro i hi
  have h1 := cnt_le xs i
  simp only [frq, List.getElem_map, List.getElem_range]
  omega
theorem lvs_frq {N : Nat} (xs : List Int) (hN : N ≤ 288) : (Lens.lvs (frq N xs)).length ≤ 2 ^ 15 := by
  have := Lens.lvs_le (frq N xs)
  rw [frq_len] at this
  have e : 2 ^ 15 = 32768 := rfl
  omega
theorem lens15_eq {N : Nat} {xs : List Int} (h : xs.length ≤ 1099511627776) (hN : N ≤ 288) : Lens.lensN 15 (frq N xs) = ((List.range N).map fun s => (Lens.lenOf 15 (frq N xs) s : Int), 0) := by
  unfold Lens.lensN
  rw [if_neg (by decide), if_neg (by rw [frq_fine h hN]; decide), if_neg (by have := lvs_frq xs hN; have e : (15 : Int).toNat = 15 := rfl; rw [e]; omega), frq_len]
  rfl
def symsA (l : List Tok) : List Int := l.map fun t => (sgA t).1
def symsB : List Tok → List Int
  | [] => []
  | t :: l => (if t.len = 0 then [] else [(sgB t).1]) ++ symsB l
theorem symsB_app : ∀ a b, symsB (a ++ b) = symsB a ++ symsB b
  | [], b => rfl
  | t :: a, b => by simp only [List.cons_append, symsB, symsB_app a b, List.append_assoc]
theorem symsB_take {l : List Tok} {j : Nat} (h : j < l.length) : symsB (l.take (j + 1)) = symsB (l.take j) ++ if l[j].len = 0 then [] else [(sgB l[j]).1] := by
  rw [List.take_succ_eq_append_getElem h, symsB_app]; simp [symsB]
theorem symsA_take {l : List Tok} {j : Nat} (h : j < l.length) : symsA (l.take (j + 1)) = symsA (l.take j) ++ [(sgA l[j]).1] := by
  unfold symsA
  rw [List.take_succ_eq_append_getElem h, List.map_append]; rfl
theorem symsB_len : ∀ l : List Tok, (symsB l).length ≤ l.length
  | [] => Nat.le_refl 0
  | t :: l => by
    have := symsB_len l
    simp only [symsB, List.length_append, List.length_cons]
    split <;> simp <;> omega
theorem symsA_len (l : List Tok) : (symsA l).length = l.length := by simp [symsA]
def litFrq (l : List Tok) : List Int := frq 286 (symsA l ++ [256])
def distFrq (l : List Tok) : List Int := frq 30 (symsB l)
def ownLit (l : List Tok) : List Int := (List.range 286).map fun s => (Lens.lenOf 15 (litFrq l) s : Int)
def ownDist (l : List Tok) : List Int := (List.range 30).map fun s => (Lens.lenOf 15 (distFrq l) s : Int)
theorem ownLit_len (l : List Tok) : (ownLit l).length = 286 := by simp [ownLit]
theorem ownDist_len (l : List Tok) : (ownDist l).length = 30 := by simp [ownDist]
theorem litFrq_eq {l : List Tok} (h : l.length ≤ 65536) : Lens.lensN 15 (litFrq l) = (ownLit l, 0) := lens15_eq (by rw [List.length_append, symsA_len]; simp; omega) (by decide)
theorem distFrq_eq {l : List Tok} (h : l.length ≤ 65536) : Lens.lensN 15 (distFrq l) = (ownDist l, 0) := lens15_eq (by have := symsB_len l; omega) (by decide)
theorem ownLit_check (l : List Tok) : Code.check (ownLit l) = 0 := by
  have := Lens.lens_check (fs := litFrq l) (limit := 15) (by decide) (by decide) (lvs_frq _ (by decide)) (by unfold litFrq; rw [frq_len]; decide)
  unfold litFrq at this
  rwa [frq_len] at this
theorem ownDist_check (l : List Tok) : Code.check (ownDist l) = 0 := by
  have := Lens.lens_check (fs := distFrq l) (limit := 15) (by decide) (by decide) (lvs_frq _ (by decide)) (by unfold distFrq; rw [frq_len]; decide)
  unfold distFrq at this
  rwa [frq_len] at this
theorem check15 {l : List Int} (h : Code.check l = 0) : Lens15 l := (Code.bad_false (Code.check_zero h).1).2
/-- what OwnLens leaves -/
def OwnPost (w : World) (l : List Tok) (e : Ending) (w' : World) : Prop :=
  (mayB l = 0 → ∃ A c B d, e = .returned (.tuple #[.slice A 286 c, .slice B 30 d, .int .i64 0]) ∧ w'.ownsRow 0 3 1 (.slice A 286 c) 286 (i64s (ownLit l)) ∧ w'.ownsRow 0 3 1 (.slice B 30 d) 30 (i64s (ownDist l)) ∧
    (∀ k, (Value.slice A 286 c).ownBlock = some k → w.heap.size ≤ k ∧ (Value.slice B 30 d).ownBlock ≠ some k) ∧ (∀ k, (Value.slice B 30 d).ownBlock = some k → w.heap.size ≤ k) ∧ Fr w w' []) ∧
  (mayB l ≠ 0 → e = .returned (.tuple #[.slice none 0 0, .slice none 0 0, .int .i64 (mayB l)]) ∧ Fr w w' [])
theorem zero286 : ∀ W : World, (zeroValue 109).run Try.prog W = .ok (.agg (i64s (frq 286 [])).toArray) W := fun W => by kernel_rfl
theorem zero30 : ∀ W : World, (zeroValue 110).run Try.prog W = .ok (.agg (i64s (frq 30 [])).toArray) W := fun W => by kernel_rfl
set_option maxHeartbeats 8000000 in
theorem ownLens_any (w : World) (A : Option Addr) (n c : Nat) (l : List Tok) (p : Option Nat) (hn : l.length = n) (hS : Sl w A (tcells l) p) (hb : n ≤ 6000000000000) (hl : LitB l) :
    Calls Try.prog 30 #[.slice A n c] w (OwnPost w l) := by
  have HS := Hd.mk hS
  have HL := Hd.mk hl
  obtain ⟨e, he⟩ : ∃ e, e = mayB l := ⟨_, rfl⟩
  have HE := Hd.mk he
  clear hS hl he
  have hz1 := zero286
  have hz2 := zero30
  go_enter Try.func30, Try.ntmps30
  go_wp2_with (fail)
  refine (may_any w A n c l p hn HS.out hb e HE.out).mono ?_
  rintro r w1 ⟨rfl, h1⟩
  have F1 := Hd.mk h1
  clear h1
  by_cases h : e = 0
  · subst h
    have hz := mayB_zero HE.out.symm
    have HZ := Hd.mk hz.2
    have hz3 := hz.1
    clear hz
    go_upto_region 6 with (fail)
    clear hz1 hz2
    have X2 : Hd (((w1.alloc (.cells (i64s (frq 286 [])).toArray 109)).alloc (.cells (i64s (frq 30 [])).toArray 110)).heap[w1.heap.size]? = some (.cells (i64s (frq 286 [])).toArray 109 (0, 0))) := ⟨blk_alloc (blk_new w1 _) _⟩
    have Y2 : Hd (((w1.alloc (.cells (i64s (frq 286 [])).toArray 109)).alloc (.cells (i64s (frq 30 [])).toArray 110)).heap[w1.heap.size + 1]? = some (.cells (i64s (frq 30 [])).toArray 110 (0, 0))) := ⟨by simpa using blk_new (w1.alloc _) _⟩
    have F2 := Hd.mk ((F1.out.alloc (.cells (i64s (frq 286 [])).toArray 109)).alloc (.cells (i64s (frq 30 [])).toArray 110))
    have hgx : w.heap.size ≤ w1.heap.size := F1.out.size
    clear F1
    generalize (w1.alloc (.cells (i64s (frq 286 [])).toArray 109)).alloc (.cells (i64s (frq 30 [])).toArray 110) = w2 at *
    generalize w1.heap.size = gx at *
    have X3 : Hd (w2.heap[gx]? = some (.cells (i64s (frq 286 (symsA (l.take 0)))).toArray 109 (0, 0))) := ⟨X2.out⟩
    have Y3 : Hd (w2.heap[gx + 1]? = some (.cells (i64s (frq 30 (symsB (l.take 0)))).toArray 110 (0, 0))) := ⟨Y2.out⟩
    clear X2 Y2
    go_wp2
    go_loopg [22] l.length (fun kq jv wr => ∃ j : Nat, jv = .int .i64 (j : Nat) ∧ j + kq = l.length ∧ Hd (wr.heap[gx]? = some (.cells (i64s (frq 286 (symsA (l.take j)))).toArray 109 (0, 0))) ∧ Hd (wr.heap[gx + 1]? = some (.cells (i64s (frq 30 (symsB (l.take j)))).toArray 110 (0, 0))) ∧ Hd (Fr w wr []))
    case atStart => exact ⟨0, rfl, by omega, X3, Y3, F2⟩
    case round =>
      obtain ⟨j, rfl, hj, HX, HY, HF⟩ := hrel
      have hca := symsA_len (l.take j)
      have hcb := symsB_len (l.take j)
      rw [List.length_take] at hca hcb
      by_cases h1 : j < l.length
      · obtain ⟨a, o1, rfl, _, hcc⟩ := Sl.row (enc := tcell) (sz := 3) (fun _ => rfl) (HS.out.frame HF.out (by simp)) h1 (by decide)
        obtain ⟨t, ht⟩ : ∃ t, t = l[j] := ⟨_, rfl⟩
        rw [← ht] at hcc
        have c0 := hcc 0 (by decide)
        have c1 := hcc 1 (by decide)
        have c2 := hcc 2 (by decide)
        simp only [tcell, List.getElem?_cons_zero, List.getElem?_cons_succ, Nat.add_zero] at c0 c1 c2
        have htm : t ∈ l := by rw [ht]; exact List.getElem_mem h1
        have hrt := HZ.out t htm
        have hlt := HL.out t htm
        have HTA : Hd (symsA (l.take (j + 1)) = symsA (l.take j) ++ [(sgA t).1]) := ⟨by rw [symsA_take h1, ht]⟩
        have HTB : Hd (symsB (l.take (j + 1)) = symsB (l.take j) ++ if t.len = 0 then [] else [(sgB t).1]) := ⟨by rw [symsB_take h1, ht]⟩
        have sa := (sgA_fit hrt hlt).1
        have sb := sgB_fit hrt
        clear hcc ht htm
        generalize symsA (l.take j) = SA at *
        generalize symsB (l.take j) = SB at *
        go_wp2_with (fail)
        refine (signs_any _ t hlt).mono ?_
        rintro r w3 ⟨rfl, h2⟩
        have f3 := ((Fr.refl wr []).alloc (.cells #[.int .u8 t.lit, .int .i64 t.len, .int .i64 t.dist] 48)).trans h2 (by simp)
        have F3 := Hd.mk (HF.out.trans f3 (by simp))
        have X4 := Hd.mk (f3.blk HX.out (by simp))
        have Y4 := Hd.mk (f3.blk HY.out (by simp))
        clear h2 f3 HX HY
        obtain ⟨⟨sx, vx, bxx⟩, hsa⟩ : ∃ x, x = sgA t := ⟨_, rfl⟩
        obtain ⟨⟨sy, vy, byy⟩, hsb2⟩ : ∃ x, x = sgB t := ⟨_, rfl⟩
        rw [← hsa] at sa HTA ⊢
        rw [← hsb2] at sb HTB ⊢
        obtain ⟨⟨a1, a2⟩, _, _, _⟩ := sa
        obtain ⟨⟨b1, b2⟩, _, _, _⟩ := sb
        clear hsa hsb2
        simp only at a1 a2 b1 b2 HTA HTB
        obtain ⟨sx, rfl⟩ := Int.eq_ofNat_of_zero_le a1
        obtain ⟨sy, rfl⟩ := Int.eq_ofNat_of_zero_le b1
        simp only [sgV]
        obtain ⟨mt, hmt⟩ : ∃ m, m = decide (t.len ≠ 0) := ⟨_, rfl⟩
        rw [← hmt]
        have HMT := Hd.mk hmt
        clear hmt
        go_upto_region 10 with (fail)
        have B1 : Hd (((w3.alloc (.cells #[.int .i64 (sx : Nat), .int .i64 vx, .int .i64 bxx] 114)).alloc (.cells #[.int .i64 (sy : Nat), .int .i64 vy, .int .i64 byy] 114)).heap[w3.heap.size]? = some (.cells #[.int .i64 (sx : Nat), .int .i64 vx, .int .i64 bxx] 114 (0, 0))) := ⟨blk_alloc (blk_new w3 _) _⟩
        have B2 : Hd (((w3.alloc (.cells #[.int .i64 (sx : Nat), .int .i64 vx, .int .i64 bxx] 114)).alloc (.cells #[.int .i64 (sy : Nat), .int .i64 vy, .int .i64 byy] 114)).heap[w3.heap.size + 1]? = some (.cells #[.int .i64 (sy : Nat), .int .i64 vy, .int .i64 byy] 114 (0, 0))) := ⟨by simpa using blk_new (w3.alloc _) _⟩
        have f4 := ((Fr.refl w3 []).alloc (.cells #[.int .i64 (sx : Nat), .int .i64 vx, .int .i64 bxx] 114)).alloc (.cells #[.int .i64 (sy : Nat), .int .i64 vy, .int .i64 byy] 114)
        have F4 := Hd.mk (F3.out.trans f4 (by simp))
        have X5 := Hd.mk (f4.blk X4.out (by simp))
        have Y5 := Hd.mk (f4.blk Y4.out (by simp))
        clear f4 F3 X4 Y4
        generalize (w3.alloc (.cells #[.int .i64 (sx : Nat), .int .i64 vx, .int .i64 bxx] 114)).alloc (.cells #[.int .i64 (sy : Nat), .int .i64 vy, .int .i64 byy] 114) = w4 at *
        generalize w3.heap.size = g at *
        have n1 : gx + 1 ≠ gx := by omega
        have n2 : g + 1 ≠ gx := blk_ne B2.out X5.out (by decide)
        have d0 := blk_cell B1.out 0
        simp only [List.getElem?_toArray, List.getElem?_cons_zero, List.getElem?_cons_succ] at d0
        have kx := (blk_cell X5.out sx).trans (frq_get SA (s := sx) (by omega))
        have fx := blk_frozen X5.out sx
        have hcx := cnt_le SA sx
        have X6 := Hd.mk (blk_set X5.out sx (.int .i64 ((Code.cnt SA sx : Nat) + 1 : Int)))
        rw [frq_set SA (by omega), ← HTA.out] at X6
        have Y6 := Hd.mk (blk_far Y5.out (p := ⟨gx, sx, none⟩) n1 (.int .i64 ((Code.cnt SA sx : Nat) + 1 : Int)))
        have B6 := Hd.mk (blk_far B2.out (p := ⟨gx, sx, none⟩) n2 (.int .i64 ((Code.cnt SA sx : Nat) + 1 : Int)))
        have F6 := Hd.mk (F4.out.setCell (a := ⟨gx, sx, none⟩) (.int .i64 ((Code.cnt SA sx : Nat) + 1 : Int)) (.inr hgx))
        generalize Code.cnt SA sx = cx at *
        have hcx2 : (cx : Int) ≤ 65536 := by omega
        clear hcx
        cases mt with
        | false =>
          have hlen0 : t.len = 0 := by have := HMT.out; simpa using this
          rw [if_pos hlen0, List.append_nil] at HTB
          go_wp2
          go_roundg (gk - 1)
          case measure => omega
          case rel => exact ⟨j + 1, by go_num, by omega, X6, ⟨by rw [HTB.out]; exact Y6.out⟩, F6⟩
        | true =>
          have hlen0 : ¬ t.len = 0 := by have := HMT.out; simpa using this
          rw [if_neg hlen0] at HTB
          go_upto_region 11 with (fail)
          generalize w4.setCell ⟨gx, sx, none⟩ (.int .i64 ((cx : Nat) + 1 : Int)) = w5 at *
          have e0 := blk_cell B6.out 0
          simp only [List.getElem?_toArray, List.getElem?_cons_zero, List.getElem?_cons_succ] at e0
          have ky := (blk_cell Y6.out sy).trans (frq_get SB (s := sy) (by omega))
          have fy := blk_frozen Y6.out sy
          have hcy := cnt_le SB sy
          have Y7 := Hd.mk (blk_set Y6.out sy (.int .i64 ((Code.cnt SB sy : Nat) + 1 : Int)))
          rw [frq_set SB (by omega), ← HTB.out] at Y7
          have X7 := Hd.mk (blk_far X6.out (p := ⟨gx + 1, sy, none⟩) n1.symm (.int .i64 ((Code.cnt SB sy : Nat) + 1 : Int)))
          have F7 := Hd.mk (F6.out.setCell (a := ⟨gx + 1, sy, none⟩) (.int .i64 ((Code.cnt SB sy : Nat) + 1 : Int)) (.inr (show w.heap.size ≤ gx + 1 by omega)))
          generalize Code.cnt SB sy = cy at *
          have hcy2 : (cy : Int) ≤ 65536 := by omega
          clear hcy d0 kx fx B6 B1 B2
          go_wp2
          go_roundg (gk - 1)
          case measure => omega
          case rel => exact ⟨j + 1, by go_num, by omega, X7, Y7, F7⟩
      · obtain rfl : j = l.length := by omega
        rw [List.take_length] at HX HY hca
        have kx := (blk_cell HX.out 256).trans (frq_get (symsA l) (s := 256) (by omega))
        have fx := blk_frozen HX.out 256
        have hcx := cnt_le (symsA l) 256
        have X6 := Hd.mk (blk_set HX.out 256 (.int .i64 ((Code.cnt (symsA l) 256 : Nat) + 1 : Int)))
        rw [frq_set (symsA l) (by omega)] at X6
        have Y6 := Hd.mk (blk_far HY.out (p := ⟨gx, 256, none⟩) (show gx + 1 ≠ gx by omega) (.int .i64 ((Code.cnt (symsA l) 256 : Nat) + 1 : Int)))
        have F6 := Hd.mk (HF.out.setCell (a := ⟨gx, 256, none⟩) (.int .i64 ((Code.cnt (symsA l) 256 : Nat) + 1 : Int)) (.inr hgx))
        generalize Code.cnt (symsA l) 256 = cx at *
        have hcx2 : (cx : Int) ≤ 65536 := by omega
        clear hcx HX HY HF X3 Y3 F2
        go_upto_region 15 with (fail)
        generalize wr.setCell ⟨gx, 256, none⟩ (.int .i64 ((cx : Nat) + 1 : Int)) = w5 at *
        have SX : Hd (Sl w5 (some ⟨gx, 0, none⟩) (i64s (litFrq l)) (some gx)) := ⟨by have := sl_of_blk X6.out; simpa [litFrq] using this⟩
        have EA := Hd.mk (litFrq_eq hz3)
        have EB := Hd.mk (distFrq_eq hz3)
        clear kx fx
        go_wp2_with (fail)
        refine (Lens.lengths_any w5 15 (some ⟨gx, 0, none⟩) 286 286 (litFrq l) _ (frq_len _ _) SX.out (by omega)).mono ?_
        rintro r w6 hlp
        unfold Lens.LensPost at hlp
        obtain ⟨A8, n8, c8, rfl, h1', h2, h3⟩ := hlp
        rw [EA.out] at h1' ⊢
        have hn8 : n8 = 286 := by have := h1'.1; rw [i64s_length, ownLit_len] at this; omega
        subst hn8
        have O8 := Hd.mk h1'
        have NW8 : Hd (∀ k, (Value.slice A8 286 c8).ownBlock = some k → w.heap.size ≤ k) := ⟨fun k hk => by have := h2 k hk; have := F6.out.size; omega⟩
        have F8 := Hd.mk (F6.out.trans h3 (by simp))
        have Y8 := Hd.mk (h3.blk Y6.out (by simp))
        have SY : Hd (Sl w6 (some ⟨gx + 1, 0, none⟩) (i64s (distFrq l)) (some (gx + 1))) := ⟨by have := sl_of_blk Y8.out; simpa [distFrq] using this⟩
        clear h1' h2 h3 F6 Y6 X6 SX
        simp only
        go_wp2_with (fail)
        refine (Lens.lengths_any w6 15 (some ⟨gx + 1, 0, none⟩) 30 30 (distFrq l) _ (frq_len _ _) SY.out (by omega)).mono ?_
        rintro r w7 hlp
        unfold Lens.LensPost at hlp
        obtain ⟨A9, n9, c9, rfl, h1', h2, h3⟩ := hlp
        rw [EB.out] at h1' ⊢
        have hn9 : n9 = 30 := by have := h1'.1; rw [i64s_length, ownDist_len] at this; omega
        subst hn9
        have O9 := Hd.mk h1'
        have NE9 : Hd (∀ k, (Value.slice A8 286 c8).ownBlock = some k → w.heap.size ≤ k ∧ (Value.slice A9 30 c9).ownBlock ≠ some k) := ⟨fun k hk => ⟨NW8.out k hk, fun h9 => by have := h2 k h9; have := own_lt O8.out hk; omega⟩⟩
        have NW9 : Hd (∀ k, (Value.slice A9 30 c9).ownBlock = some k → w.heap.size ≤ k) := ⟨fun k hk => by have := h2 k hk; have := F8.out.size; omega⟩
        have F9 := Hd.mk (F8.out.trans h3 (by simp))
        have O10 := Hd.mk (own_frame O8.out h3 (by simp))
        clear h1' h2 h3 F8 Y8 SY O8
        simp only
        go_wp2
        go_ret3
        exact ⟨fun _ => ⟨A8, c8, A9, c9, rfl, O10.out, O9.out, NE9.out, NW9.out, F9.out⟩, fun h => absurd HE.out.symm h⟩
  · have hne : (e != 0) = true := by simpa using h
    go_wp2
    go_ret3
    exact ⟨fun h' => absurd (HE.out.trans h') h, fun _ => ⟨by rw [← HE.out]; rfl, F1.out⟩⟩
end Go.Proofs.Ytkdgfioigkijgaa.Blk
/- kinds and row (chapter 08): what they answer. Conditions: at most 2^40 lengths. -/
set_option linter.unusedVariables false
set_option linter.unusedSimpArgs false
set_option maxRecDepth 100000
namespace Go.Proofs.Ytkdgfioigkijgaa.Head
open Go.RowKit Go.Proofs.Ytkdgfioigkijgaa.Lib Go.Proofs.Ytkdgfioigkijgaa.Ints Go.Proofs.Ytkdgfioigkijgaa.Runs

def enc (r : Int × Int) : List Value := [.int .i64 r.1, .int .i64 r.2]
def cells (rs : List (Int × Int)) : List Value := rs.flatMap enc
theorem cells_app (a b : List (Int × Int)) : cells (a ++ b) = cells a ++ cells b := by simp [cells]
theorem cells_len (a : List (Int × Int)) : (cells a).length = 2 * a.length := by
  induction a with
  | nil => rfl
  | cons x t ih => simp only [cells, List.flatMap_cons, List.length_append] at ih ⊢; rw [ih]; simp [enc]; omega
theorem kinds_16 (w : World) : Calls Try.prog 95 #[.int .i64 16] w fun e w' => e = .returned (.agg #[.int .i64 2, .int .i64 3, .int .i64 6]) ∧ Fr w w' [] := by
  go_enter Try.func95, Try.ntmps95
  go_wp2
  exact bodyPost_ret (v := .agg #[.int .i64 2, .int .i64 3, .int .i64 6]) (by simp [results, Try.results95, go_sem]) rfl ⟨rfl, ((Fr.refl _ _).alloc _).alloc _⟩
theorem kinds_17 (w : World) : Calls Try.prog 95 #[.int .i64 17] w fun e w' => e = .returned (.agg #[.int .i64 3, .int .i64 3, .int .i64 10]) ∧ Fr w w' [] := by
  go_enter Try.func95, Try.ntmps95
  go_wp2
  exact bodyPost_ret (v := .agg #[.int .i64 3, .int .i64 3, .int .i64 10]) (by simp [results, Try.results95, go_sem]) rfl ⟨rfl, ((Fr.refl _ _).alloc _).alloc _⟩
theorem kinds_18 (w : World) : Calls Try.prog 95 #[.int .i64 18] w fun e w' => e = .returned (.agg #[.int .i64 7, .int .i64 11, .int .i64 138]) ∧ Fr w w' [] := by
  go_enter Try.func95, Try.ntmps95
  go_wp2
  exact bodyPost_ret (v := .agg #[.int .i64 7, .int .i64 11, .int .i64 138]) (by simp [results, Try.results95, go_sem]) rfl ⟨rfl, ((Fr.refl _ _).alloc _).alloc _⟩
end Go.Proofs.Ytkdgfioigkijgaa.Head
/- The document's Runs. Conditions: none but what memory bounds. -/
set_option linter.unusedVariables false
set_option linter.unusedSimpArgs false
set_option maxRecDepth 100000
namespace Go.Proofs.Ytkdgfioigkijgaa.Head
open Go.RowKit Go.Proofs.Ytkdgfioigkijgaa.Lib Go.Proofs.Ytkdgfioigkijgaa.Ints Go.Proofs.Ytkdgfioigkijgaa.Runs

/-- is there one that is out of bounds? -/
def out (hi : Int) (xs : List Int) : Bool := xs.any fun x => decide (x < 0 ∨ hi < x)
theorem out_true {hi : Int} {xs : List Int} {j : Nat} (h : j < xs.length) (hx : xs[j] < 0 ∨ hi < xs[j]) : out hi xs = true := by
  simp only [out, List.any_eq_true, decide_eq_true_eq]
  exact ⟨_, List.getElem_mem h, hx⟩
theorem out_false {hi : Int} {xs : List Int} (h : ∀ i, (hi' : i < xs.length) → 0 ≤ xs[i] ∧ xs[i] ≤ hi) : out hi xs = false := by
  rw [Bool.eq_false_iff]
  intro hc
  simp only [out, List.any_eq_true, decide_eq_true_eq] at hc
  obtain ⟨x, hx, h1⟩ := hc
  obtain ⟨i, hi', rfl⟩ := List.getElem_of_mem hx
  have := h i hi'
  omega
def bad (xs : List Int) : Bool := decide (320 < xs.length) || out 15 xs
theorem row_len (v : Int) {k : Nat} (h : 1 ≤ k) : (rowOf v k).length ≤ Runs.rowLen v k := by
  have hs : ∀ f k, (sixes f k).length ≤ sixed f k := by
    intro f
    induction f with
    | zero => intro k; exact Nat.le_refl _
    | succ f ih =>
      intro k
      simp only [sixes, sixed]
      split
      · exact Nat.le_refl _
      · have := ih (k - min k 6); simp only [List.length_cons]; omega
  unfold rowOf Runs.rowLen
  split
  · split
    · simp; omega
    · split <;> simp <;> omega
  · have := hs (k - 1) (k - 1); simp only [List.length_cons]; omega
theorem sl_of_own2 {w : World} {base : Nat} {e : TypeId} {size : Nat} {A : Option Addr} {n c : Nat} {xs : List Value} (h : w.ownsRow base e size (.slice A n c) n xs) (hn : 0 < n) : Sl w A xs (Value.slice A n c).ownBlock := by
  intro hx
  obtain ⟨g, d, e1, _⟩ := own_some h hn
  injection e1 with e1 _ e2
  subst e1 e2
  refine ⟨g, 0, rfl, rfl, fun j hj => ?_⟩
  have := h.cells (g := g) rfl j xs[j] (by simp)
  rw [List.getElem?_eq_getElem hj, ← this]
  congr 1
  unfold Addr.add
  by_cases e2 : j = 0 <;> simp [e2]
end Go.Proofs.Ytkdgfioigkijgaa.Head
/- The program's Runs. Conditions: none but what memory bounds. -/
set_option linter.unusedVariables false
set_option linter.unusedSimpArgs false
set_option maxRecDepth 100000
namespace Go.Proofs.Ytkdgfioigkijgaa.Head
open Go.RowKit Go.Proofs.Ytkdgfioigkijgaa.Lib Go.Proofs.Ytkdgfioigkijgaa.Ints Go.Proofs.Ytkdgfioigkijgaa.Runs

theorem infoRunA : (Try.prog.info? 187).map (fun i => (i.zero, i.size, i.bytes)) = some (some (.agg #[.int .i64 0, .int .i64 0]), 2, 16) := by kernel_rfl
theorem kf (a b c : Int) (w : World) : (Instr.field 189 (.agg #[.int .i64 a, .int .i64 b, .int .i64 c]) 1).run Try.prog w = .ok (.int .i64 b) w ∧ (Instr.field 189 (.agg #[.int .i64 a, .int .i64 b, .int .i64 c]) 2).run Try.prog w = .ok (.int .i64 c) w := ⟨by kernel_rfl, by kernel_rfl⟩
theorem own_new {wo w : World} {q q' : Option Nat} (hB : ∀ x, q = some x → wo.heap.size ≤ x) (hs : wo.heap.size ≤ w.heap.size) {o : Obj} (h : Aft (w.alloc o) q q') : ∀ y, q' = some y → wo.heap.size ≤ y := by
  intro y hy
  rcases h with e | ⟨z, e, hz⟩
  · rw [e] at hy; exact hB y hy
  · rw [e] at hy; cases hy; simp at hz; omega
set_option maxHeartbeats 8000000 in
theorem runs_any (w : World) (A : Option Addr) (n c : Nat) (xs : List Int) (p : Option Nat) (hn : xs.length = n) (hnc : n ≤ c) (hS : Sl w A (i64s xs) p) (hA : A = none → n = 0 ∧ c = 0) (hn1 : n ≤ 4611686018427387904) (ec : Int) (rs : List (Int × Int)) (hec : ec = if bad xs then 80 else 0) (hrs : rs = if bad xs then [] else runs xs) :
    Calls Try.prog 104 #[.slice A n c] w fun e w' => ∃ A' m d, e = .returned (.tuple #[.slice A' m d, .int .i64 ec]) ∧
      w'.ownsRow 0 187 2 (.slice A' m d) m (cells rs) ∧ (∀ j, (Value.slice A' m d).ownBlock = some j → w.heap.size ≤ j) ∧ Fr w w' [] := by
  obtain ⟨i0, hi0, hz0, hz1, hz2⟩ := info_parts infoRunA
  obtain ⟨j0, hj0, hj1, hj2, hj3⟩ := info_parts infoI64
  subst hn
  have HS := Hd.mk hS
  have HA0 := Hd.mk hA
  have HEC := Hd.mk hec
  have HRS := Hd.mk hrs
  clear hS hA hec hrs
  by_cases hbig : 320 < xs.length
  · have hc : Hd (bad xs = true) := ⟨by unfold bad; rw [decide_eq_true hbig]; rfl⟩
    go_enter Try.func104, Try.ntmps104
    go_wp2
    go_ret2
    exact ⟨none, 0, 0, by rw [HEC.out, hc.out]; rfl, by rw [HRS.out, hc.out]; exact own_nil _ _ _ _, (by intro j hj; cases hj), Fr.refl _ _⟩
  · go_enter Try.func104, Try.ntmps104
    go_wp2
    go_loopg [14] xs.length (fun kq jv wr => ∃ j : Nat, jv = .int .i64 (j : Nat) ∧ j + kq = xs.length ∧ wr = w ∧ Hd (∀ i, i < j → (h : i < xs.length) → 0 ≤ xs[i] ∧ xs[i] ≤ 15))
    case atStart => exact ⟨0, rfl, by omega, rfl, ⟨fun i h => absurd h (Nat.not_lt_zero _)⟩⟩
    case round =>
      obtain ⟨j, rfl, hj, rfl, HA⟩ := hrel
      by_cases h1 : j < xs.length
      · obtain ⟨a, o1, rfl, _, ha⟩ := HS.out (by simp [i64s]; omega)
        obtain ⟨x, hx⟩ : ∃ x, x = xs[j] := ⟨_, rfl⟩
        have ca := (ha j (by simp [i64s]; omega)).trans (by rw [i64s_get, List.getElem?_eq_getElem (by omega), ← hx])
        have HX := Hd.mk hx
        clear ha hx
        by_cases h2 : x < 0
        · have hc : Hd (bad xs = true) := ⟨by unfold bad; rw [out_true h1 (by rw [← HX.out]; exact .inl h2), Bool.or_true]⟩
          go_wp2
          go_ret2
          exact ⟨none, 0, 0, by rw [HEC.out, hc.out]; rfl, by rw [HRS.out, hc.out]; exact own_nil _ _ _ _, (by intro j hj; cases hj), Fr.refl _ _⟩
        · by_cases h3 : 15 < x
          · have hc : Hd (bad xs = true) := ⟨by unfold bad; rw [out_true h1 (by rw [← HX.out]; exact .inr h3), Bool.or_true]⟩
            go_wp2
            go_ret2
            exact ⟨none, 0, 0, by rw [HEC.out, hc.out]; rfl, by rw [HRS.out, hc.out]; exact own_nil _ _ _ _, (by intro j hj; cases hj), Fr.refl _ _⟩
          · go_wp2
            go_roundg (gk - 1)
            case measure => omega
            case rel => exact ⟨j + 1, by go_num, by omega, rfl, ⟨fun i hi h => by
              by_cases e : i = j
              · subst e; rw [← HX.out]; omega
              · exact HA.out i (by omega) h⟩⟩
      · have hc : Hd (bad xs = false) := ⟨by unfold bad; rw [out_false (fun i hi => HA.out i (by omega) hi), decide_eq_false hbig]; rfl⟩
        clear HA
        obtain ⟨wo, rfl⟩ : ∃ wo : World, wo = wr := ⟨_, rfl⟩
        go_wp2
        go_loopg [0, 6] xs.length (fun kq lv sv wr => ∃ (ys : List Int) (A1 : Option Addr) (c1 : Nat) (A' : Option Addr) (m d : Nat) (P : List (Int × Int)), lv = .slice A1 ys.length c1 ∧ sv = .slice A' m d ∧ ys.length = kq ∧ ys.length ≤ c1 ∧ m + ys.length ≤ xs.length ∧ Hd (Sl wo A1 (i64s ys) p) ∧ Hd (A1 = none → ys.length = 0 ∧ c1 = 0) ∧
          Hd (P ++ runs ys = runs xs) ∧ Hd (wr.ownsRow 0 187 2 (.slice A' m d) m (cells P)) ∧ Hd (∀ x, (Value.slice A' m d).ownBlock = some x → wo.heap.size ≤ x) ∧ Hd (Fr wo wr []))
        case atStart => exact ⟨xs, A, c, none, 0, 0, [], rfl, rfl, rfl, hnc, by omega, HS, HA0, ⟨rfl⟩, ⟨own_nil _ _ _ _⟩, ⟨by intro x hx; cases hx⟩, ⟨Fr.refl _ _⟩⟩
        case round =>
          obtain ⟨ws, rfl⟩ : ∃ ws : World, ws = wr := ⟨_, rfl⟩
          obtain ⟨gx, rfl⟩ : ∃ gx : Nat, gx = gk := ⟨_, rfl⟩
          obtain ⟨ys, A1, c1, A', m, d, P, rfl, rfl, hi, hyc, hmi, HY, HYA, HP, HO, HB, HF⟩ := hrel
          cases ys with
          | nil =>
            have hp := HP.out
            rw [runs_nil, List.append_nil] at hp
            have hrs2 : Hd (rs = P) := ⟨by rw [HRS.out, hc.out, hp]; rfl⟩
            have hec2 : Hd (ec = 0) := ⟨by rw [HEC.out, hc.out]; rfl⟩
            simp only [List.length_nil]
            go_wp2
            go_ret2
            rw [hrs2.out, hec2.out]
            exact ⟨A', m, d, rfl, HO.out, HB.out, HF.out⟩
          | cons x t =>
            obtain ⟨a, o1, rfl, _, ha⟩ := (HY.out.frame HF.out (by simp)) (by simp [i64s])
            have c0 := ha 0 (by simp [i64s])
            simp only [i64s, List.map_cons, List.getElem?_cons_zero, Nat.add_zero] at c0
            have HC := Hd.mk ha
            obtain ⟨ny, hny⟩ : ∃ ny, ny = (x :: t).length := ⟨_, rfl⟩
            have hny1 : 1 ≤ ny := by rw [hny]; simp
            rw [← hny] at hi hyc hmi ⊢
            have HNY := Hd.mk hny
            have HI := Hd.mk hi
            clear ha hny hi
            have hI2 : (0 : Int) < (ny : Int) := by omega
            have hdd0 : decide (0 < ny) = true := decide_eq_true (by omega)
            go_upto_block 4 with (fail)
            go_cut [7] from 28 to 43 (fun s7 wc => ∃ k : Nat, s7 = .int .i64 (k : Nat) ∧ Hd (Fr ws wc []) ∧ 1 ≤ k ∧ k ≤ ny ∧ Hd (k = lead x t + 1))
            case first =>
              go_wp2_with (fail)
              go_loopg [7] ny (fun kq kv wr => ∃ k : Nat, kv = .int .i64 (k : Nat) ∧ k + kq = ny + 1 ∧ 1 ≤ k ∧ k ≤ ny ∧ Hd (Fr ws wr []) ∧ Hd (∀ j, j + 1 < k → t[j]? = some x))
              case atStart => exact ⟨1, rfl, by omega, by omega, by omega, ⟨Fr.refl _ _⟩, ⟨fun j hj => by omega⟩⟩
              case round =>
                obtain ⟨k, rfl, hk, hk1, hk2, HFk, HE⟩ := hrel
                obtain ⟨a2, o2, e2, _, hb⟩ := (HY.out.frame (HF.out.trans HFk.out (by simp)) (by simp)) (by simp [i64s])
                injection e2 with e2
                injection e2 with e2 e3
                subst e2 e3
                have d0 := hb 0 (by simp [i64s])
                simp only [i64s, List.map_cons, List.getElem?_cons_zero, Nat.add_zero] at d0
                by_cases h2 : k < ny
                · have hlt : k - 1 < t.length := by have := HNY.out; simp at this; omega
                  obtain ⟨y, hy⟩ : ∃ y, y = t[k - 1] := ⟨_, rfl⟩
                  have hdr : Hd (t[k - 1]? = some y) := ⟨by rw [List.getElem?_eq_getElem hlt, hy]⟩
                  have cb := (hb k (by have := HNY.out; simp [i64s] at this ⊢; omega)).trans (show _ = some (Value.int .i64 y) from by
                    rw [i64s_get, show k = (k - 1) + 1 from by omega, List.getElem?_cons_succ, hdr.out]; rfl)
                  clear hb hy hlt
                  have hI1 : (k : Int) < (ny : Int) := by omega
                  have hdd : decide (k < ny) = true := decide_eq_true h2
                  by_cases h3 : y = x
                  · subst h3
                    go_wp2
                    go_quiet (fail)
                    go_wp2
                    go_roundg (gk - 1)
                    case measure => omega
                    case rel => exact ⟨k + 1, by go_num, by omega, by omega, by omega, ⟨HFk.out.drewN _⟩, ⟨fun j hj => by
                      by_cases e : j + 1 = k
                      · rw [show j = k - 1 from by omega]; exact hdr.out
                      · exact HE.out j (by omega)⟩⟩
                  · have hbq : (y == x) = false := by simpa using h3
                    go_wp2
                    go_quiet (fail)
                    go_wp2
                    go_meet
                    refine ⟨k, rfl, ⟨HFk.out.drewN _⟩, hk1, hk2, ⟨?_⟩⟩
                    rw [lead_eq (k := k - 1) (by have := HNY.out; simp at this; omega) (fun j hj => HE.out j (by omega)) (fun _ e => by rw [hdr.out] at e; injection e with e; exact h3 e)]
                    omega
                · have hd2 : decide (k < ny) = false := decide_eq_false h2
                  clear hb
                  go_wp2
                  go_quiet (fail)
                  go_wp2
                  go_meet
                  refine ⟨k, rfl, ⟨HFk.out.drewN _⟩, hk1, hk2, ⟨?_⟩⟩
                  rw [lead_eq (k := k - 1) (by have := HNY.out; simp at this; omega) (fun j hj => HE.out j (by omega)) (fun h => by have := HNY.out; simp at this; omega)]
                  omega
            case rest =>
              obtain ⟨k, rfl, HFk, hk1, hk2, HK⟩ := hcut
              obtain ⟨R, hR⟩ : ∃ R, R = rowOf x k := ⟨_, rfl⟩
              obtain ⟨L, hL⟩ : ∃ L, L = Runs.rowLen x k := ⟨_, rfl⟩
              have HR := Hd.mk hR
              have HL := Hd.mk hL
              have hL1 : 1 ≤ L := by rw [hL]; exact rowLen_pos _ _
              have hLk : L ≤ k := by rw [hL]; exact rowLen_le _ hk1
              clear hR hL c0
              have HFc := Hd.mk (HF.out.trans HFk.out (by simp) : Fr wo wc [])
              obtain ⟨a2, o2, e2, _, hb⟩ := (HY.out.frame HFc.out (by simp)) (by simp [i64s])
              injection e2 with e2
              injection e2 with e2 e3
              subst e2 e3
              have d0 := hb 0 (by simp [i64s])
              simp only [i64s, List.map_cons, List.getElem?_cons_zero, Nat.add_zero] at d0
              clear hb
              have HOc := Hd.mk (own_frame HO.out HFk.out (by simp))
              by_cases hx0 : x = 0
              · subst hx0
                have f181 := fun w => (kf 7 11 138 w).1
                have f182 := fun w => (kf 7 11 138 w).2
                have f171 := fun w => (kf 3 3 10 w).1
                go_upto_block 6 with (fail)
                go_cut [6, 7] from 48 to 76 (fun s6 s7 wd => ∃ (A2 : Option Addr) (d2 : Nat), s6 = .slice A2 (m + 1) d2 ∧ s7 = .int .i64 (L : Nat) ∧ Hd (wd.ownsRow 0 187 2 (.slice A2 (m + 1) d2) (m + 1) (cells (P ++ R))) ∧ Hd (∀ y, (Value.slice A2 (m + 1) d2).ownBlock = some y → wo.heap.size ≤ y) ∧ Hd (Fr wo wd []))
                case first =>
                  by_cases h11 : 11 ≤ k
                  · have hr : Hd (R = [(18, ((min k 138 : Nat) : Int))]) := ⟨by rw [HR.out]; unfold rowOf; rw [if_pos rfl, if_pos h11]⟩
                    have hl : L = min k 138 := by rw [HL.out]; unfold Runs.rowLen; rw [if_pos rfl, if_pos h11]
                    go_wp2_with (fail)
                    refine (kinds_18 wc).mono ?_
                    rintro e w2 ⟨rfl, g1⟩
                    have G2 := Hd.mk g1
                    clear g1
                    go_wp2_with (fail)
                    refine (kinds_18 w2).mono ?_
                    rintro e w4 ⟨rfl, g1⟩
                    have HF4 := Hd.mk ((HFc.out.trans G2.out (by simp)).trans g1 (by simp))
                    have HO4 := Hd.mk (own_frame (own_frame HOc.out G2.out (by simp)) g1 (by simp))
                    clear g1
                    by_cases h138 : 138 < k
                    · obtain rfl : L = 138 := by omega
                      have hr2 : Hd (R = [(18, 138)]) := ⟨by rw [hr.out, show min k 138 = 138 from by omega]; rfl⟩
                      clear hl
                      go_wp2_with (at_builtin; refine wpList_append_sl rfl (.tmp 61) (.tmp 64) 181 rfl 187 i0 (.agg #[.int .i64 0, .int .i64 0]) 2 16 Try.underlying181 hi0 hz0 hz1 hz2 rfl (by decide) (.slice A' m d) m _ rfl (by exact HO4.out.alloc _) (some ⟨w4.heap.size, 0, none⟩) 1 1 [.int .i64 18, .int .i64 138] (some w4.heap.size) rfl rfl (by exact sl_of_blk (blk_new _ _)) (by intro h; cases h) (by intro u hu; simp at hu; rcases hu with rfl | rfl <;> rfl) (by unfold maxLen; omega) (by omega) ?_; intro A3 d3 w3 hown' hgrow haft; have O3 := Hd.mk hown'; have G3 := Hd.mk hgrow; have F3 := Hd.mk haft; clear hown' hgrow haft)
                      go_meet
                      exact ⟨A3, d3, rfl, rfl, ⟨by rw [hr2.out, cells_app]; exact O3.out⟩, ⟨own_new HB.out HF4.out.size F3.out⟩, ⟨(HF4.out.alloc _).grown G3.out (fun y hy => .inr (HB.out y hy))⟩⟩
                    · obtain rfl : L = k := by omega
                      have hr2 : Hd (R = [(18, (L : Int))]) := ⟨by rw [hr.out, show min L 138 = L from by omega]⟩
                      clear hl
                      go_wp2_with (at_builtin; refine wpList_append_sl rfl (.tmp 61) (.tmp 64) 181 rfl 187 i0 (.agg #[.int .i64 0, .int .i64 0]) 2 16 Try.underlying181 hi0 hz0 hz1 hz2 rfl (by decide) (.slice A' m d) m _ rfl (by exact HO4.out.alloc _) (some ⟨w4.heap.size, 0, none⟩) 1 1 [.int .i64 18, .int .i64 (L : Nat)] (some w4.heap.size) rfl rfl (by exact sl_of_blk (blk_new _ _)) (by intro h; cases h) (by intro u hu; simp at hu; rcases hu with rfl | rfl <;> rfl) (by unfold maxLen; omega) (by omega) ?_; intro A3 d3 w3 hown' hgrow haft; have O3 := Hd.mk hown'; have G3 := Hd.mk hgrow; have F3 := Hd.mk haft; clear hown' hgrow haft)
                      go_meet
                      exact ⟨A3, d3, rfl, rfl, ⟨by rw [hr2.out, cells_app]; exact O3.out⟩, ⟨own_new HB.out HF4.out.size F3.out⟩, ⟨(HF4.out.alloc _).grown G3.out (fun y hy => .inr (HB.out y hy))⟩⟩
                  · by_cases h3 : 3 ≤ k
                    · have hr : Hd (R = [(17, (k : Int))]) := ⟨by rw [HR.out]; unfold rowOf; rw [if_pos rfl, if_neg h11, if_pos h3]⟩
                      obtain rfl : L = k := by rw [HL.out]; unfold Runs.rowLen; rw [if_pos rfl, if_neg h11, if_pos h3]
                      go_wp2_with (fail)
                      refine (kinds_18 wc).mono ?_
                      rintro e w2 ⟨rfl, g1⟩
                      have G2 := Hd.mk g1
                      clear g1
                      go_wp2_with (fail)
                      refine (kinds_17 w2).mono ?_
                      rintro e w4 ⟨rfl, g1⟩
                      have HF4 := Hd.mk ((HFc.out.trans G2.out (by simp)).trans g1 (by simp))
                      have HO4 := Hd.mk (own_frame (own_frame HOc.out G2.out (by simp)) g1 (by simp))
                      clear g1
                      go_wp2_with (at_builtin; refine wpList_append_sl rfl (.tmp 71) (.tmp 74) 181 rfl 187 i0 (.agg #[.int .i64 0, .int .i64 0]) 2 16 Try.underlying181 hi0 hz0 hz1 hz2 rfl (by decide) (.slice A' m d) m _ rfl (by exact HO4.out.alloc _) (some ⟨w4.heap.size, 0, none⟩) 1 1 [.int .i64 17, .int .i64 (L : Nat)] (some w4.heap.size) rfl rfl (by exact sl_of_blk (blk_new _ _)) (by intro h; cases h) (by intro u hu; simp at hu; rcases hu with rfl | rfl <;> rfl) (by unfold maxLen; omega) (by omega) ?_; intro A3 d3 w3 hown' hgrow haft; have O3 := Hd.mk hown'; have G3 := Hd.mk hgrow; have F3 := Hd.mk haft; clear hown' hgrow haft)
                      go_meet
                      exact ⟨A3, d3, rfl, rfl, ⟨by rw [hr.out, cells_app]; exact O3.out⟩, ⟨own_new HB.out HF4.out.size F3.out⟩, ⟨(HF4.out.alloc _).grown G3.out (fun y hy => .inr (HB.out y hy))⟩⟩
                    · have hr : Hd (R = [(0, 1)]) := ⟨by rw [HR.out]; unfold rowOf; rw [if_pos rfl, if_neg h11, if_neg h3]⟩
                      obtain rfl : L = 1 := by rw [HL.out]; unfold Runs.rowLen; rw [if_pos rfl, if_neg h11, if_neg h3]
                      go_wp2_with (fail)
                      refine (kinds_18 wc).mono ?_
                      rintro e w2 ⟨rfl, g1⟩
                      have G2 := Hd.mk g1
                      clear g1
                      go_wp2_with (fail)
                      refine (kinds_17 w2).mono ?_
                      rintro e w4 ⟨rfl, g1⟩
                      have HF4 := Hd.mk ((HFc.out.trans G2.out (by simp)).trans g1 (by simp))
                      have HO4 := Hd.mk (own_frame (own_frame HOc.out G2.out (by simp)) g1 (by simp))
                      clear g1
                      go_wp2_with (at_builtin; refine wpList_append_sl rfl (.tmp 48) (.tmp 50) 181 rfl 187 i0 (.agg #[.int .i64 0, .int .i64 0]) 2 16 Try.underlying181 hi0 hz0 hz1 hz2 rfl (by decide) (.slice A' m d) m _ rfl (by exact HO4.out.alloc _) (some ⟨w4.heap.size, 0, none⟩) 1 1 [.int .i64 0, .int .i64 1] (some w4.heap.size) rfl rfl (by exact sl_of_blk (blk_new _ _)) (by intro h; cases h) (by intro u hu; simp at hu; rcases hu with rfl | rfl <;> rfl) (by unfold maxLen; omega) (by omega) ?_; intro A3 d3 w3 hown' hgrow haft; have O3 := Hd.mk hown'; have G3 := Hd.mk hgrow; have F3 := Hd.mk haft; clear hown' hgrow haft)
                      go_meet
                      exact ⟨A3, d3, rfl, rfl, ⟨by rw [hr.out, cells_app]; exact O3.out⟩, ⟨own_new HB.out HF4.out.size F3.out⟩, ⟨(HF4.out.alloc _).grown G3.out (fun y hy => .inr (HB.out y hy))⟩⟩
                case rest =>
                  obtain ⟨A2, d2, rfl, rfl, HO2, HB2, HF2⟩ := hcut
                  have hcutl := run_cut_from (P := Try.prog) 70 3 .i64 Try.underlying70 hj0 1 hj2 (some ⟨a, o1, none⟩) ny c1 L (by omega)
                  go_wp2
                  go_roundg (gx - L)
                  case measure => have := HI.out; omega
                  case rel =>
                    refine ⟨((0 : Int) :: t).drop L, cutA (some ⟨a, o1, none⟩) c1 L 1, c1 - L, A2, m + 1, d2, P ++ R, by rw [List.length_drop, ← HNY.out], rfl, by rw [List.length_drop, ← HNY.out, HI.out], by rw [List.length_drop, ← HNY.out]; omega, by rw [List.length_drop, ← HNY.out]; omega, ⟨?_⟩, ⟨?_⟩, ⟨?_⟩, HO2, HB2, HF2⟩
                    · have := HY.out.cut (k := L) (c := c1) (n := ny) (by rw [HNY.out]; simp [i64s]) (by omega) (by omega)
                      simpa [i64s, List.map_drop] using this
                    · intro h
                      rw [List.length_drop, ← HNY.out]
                      exact cutA_none (n := ny) (fun h => by cases h) h
                    · rw [← HP.out, List.append_assoc, runs_cons, ← HK.out, ← HR.out, ← HL.out]
              · have hxb : (x == 0) = false := by simpa using hx0
                have hr : Hd (R = (x, 1) :: sixes (k - 1) (k - 1)) := ⟨by rw [HR.out]; unfold rowOf; rw [if_neg hx0]⟩
                have hl : Hd (L = 1 + sixed (k - 1) (k - 1)) := ⟨by rw [HL.out]; unfold Runs.rowLen; rw [if_neg hx0]⟩
                obtain ⟨A5, hA5⟩ : ∃ A5, A5 = cutA (some ⟨a, o1, none⟩) c1 1 1 := ⟨_, rfl⟩
                have hcutl : ∀ W : World, (Instr.slice 70 (.slice (some ⟨a, o1, none⟩) ny c1) (some (.int .i64 1)) none none).run Try.prog W = .ok (.slice A5 (ny - 1) (c1 - 1)) W := by
                  rw [hA5]
                  exact run_cut_from (P := Try.prog) 70 3 .i64 Try.underlying70 hj0 1 hj2 (some ⟨a, o1, none⟩) ny c1 1 (by omega)
                have HY5 : Hd (Sl wo A5 (i64s ((x :: t).drop 1)) p) := ⟨by
                  have := HY.out.cut (k := 1) (c := c1) (n := ny) (by rw [HNY.out]; simp [i64s]) (by omega) (by omega)
                  rw [hA5]
                  simpa [i64s, List.map_drop] using this⟩
                have HN5 : Hd (A5 = none → ny - 1 = 0 ∧ c1 - 1 = 0) := ⟨fun h => cutA_none (fun h => by cases h) (hA5 ▸ h)⟩
                clear hA5
                go_wp2_with (at_builtin; refine wpList_append_sl rfl (.tmp 79) (.tmp 84) 181 rfl 187 i0 (.agg #[.int .i64 0, .int .i64 0]) 2 16 Try.underlying181 hi0 hz0 hz1 hz2 rfl (by decide) (.slice A' m d) m _ rfl (by exact HOc.out.alloc _) (some ⟨wc.heap.size, 0, none⟩) 1 1 [.int .i64 x, .int .i64 1] (some wc.heap.size) rfl rfl (by exact sl_of_blk (blk_new _ _)) (by intro h; cases h) (by intro u hu; simp at hu; rcases hu with rfl | rfl <;> rfl) (by unfold maxLen; omega) (by omega) ?_; intro A3 d3 w3 hown' hgrow haft; have O3 := Hd.mk hown'; have G3 := Hd.mk hgrow; have F3 := Hd.mk haft; clear hown' hgrow haft)
                have f161 := fun w => (kf 2 3 6 w).1
                have f162 := fun w => (kf 2 3 6 w).2
                have HF3 : Hd (Fr wo w3 []) := ⟨(HFc.out.alloc _).grown G3.out (fun y hy => .inr (HB.out y hy))⟩
                have HB3 : Hd (∀ y, (Value.slice A3 (m + 1) d3).ownBlock = some y → wo.heap.size ≤ y) := ⟨own_new HB.out HFc.out.size F3.out⟩
                go_loopg [0, 6, 7] k (fun kq lv sv kv wr => ∃ (D j : Nat) (A6 : Option Addr) (n6 c6 : Nat) (A7 : Option Addr) (m7 d7 : Nat) (P7 : List (Int × Int)), lv = .slice A6 n6 c6 ∧ sv = .slice A7 m7 d7 ∧ kv = .int .i64 (j : Nat) ∧ j + 1 ≤ kq ∧ D + j = k ∧ n6 + D = ny ∧ c6 + D = c1 ∧ m7 ≤ m + D ∧ Hd (D + sixed j j = L) ∧ Hd (P7 ++ sixes j j = P ++ R) ∧ Hd (Sl wo A6 (i64s ((x :: t).drop D)) p) ∧ Hd (A6 = none → n6 = 0 ∧ c6 = 0) ∧
                  Hd (wr.ownsRow 0 187 2 (.slice A7 m7 d7) m7 (cells P7)) ∧ Hd (∀ y, (Value.slice A7 m7 d7).ownBlock = some y → wo.heap.size ≤ y) ∧ Hd (Fr wo wr []))
                case atStart => exact ⟨1, k - 1, A5, ny - 1, c1 - 1, A3, m + 1, d3, P ++ [(x, 1)], rfl, rfl, by go_num, by omega, by omega, by omega, by omega, by omega, ⟨hl.out.symm⟩, ⟨by rw [hr.out, List.append_assoc]; rfl⟩, HY5, HN5, ⟨by rw [cells_app]; exact O3.out⟩, HB3, HF3⟩
                case round =>
                  clear HF3 HB3 O3 G3 F3 HY5 HN5 HOc HFc d0 hcutl
                  obtain ⟨D, j, A6, n6, c6, A7, m7, d7, P7, rfl, rfl, rfl, hjk, hDk, hn6, hc6, hm7, HL7, HP7, HY6, HN6, HO7, HB7, HF7⟩ := hrel
                  by_cases h3 : 3 ≤ j
                  · go_wp2_with (fail)
                    refine (kinds_16 wr).mono ?_
                    rintro e w2 ⟨rfl, g1⟩
                    have G2 := Hd.mk g1
                    clear g1
                    go_wp2_with (fail)
                    refine (kinds_16 w2).mono ?_
                    rintro e w8 ⟨rfl, g1⟩
                    have HF8 := Hd.mk ((HF7.out.trans G2.out (by simp)).trans g1 (by simp))
                    have HO8 := Hd.mk (own_frame (own_frame HO7.out G2.out (by simp)) g1 (by simp))
                    clear g1 G2
                    by_cases h6 : 6 < j
                    · skip
                      obtain ⟨A9, hA9⟩ : ∃ A9, A9 = cutA A6 c6 6 1 := ⟨_, rfl⟩
                      have hcutl : ∀ W : World, (Instr.slice 70 (.slice A6 n6 c6) (some (.int .i64 6)) none none).run Try.prog W = .ok (.slice A9 (n6 - 6) (c6 - 6)) W := by
                        rw [hA9]
                        exact run_cut_from (P := Try.prog) 70 3 .i64 Try.underlying70 hj0 1 hj2 A6 n6 c6 6 (by omega)
                      have HY9 : Hd (Sl wo A9 (i64s ((x :: t).drop (D + 6))) p) := ⟨by
                        have := HY6.out.cut (k := 6) (c := c6) (n := n6) (by simp only [i64s_length, List.length_drop, ← HNY.out]; omega) (by omega) (by omega)
                        rw [hA9]
                        simpa [i64s, List.map_drop, List.drop_drop] using this⟩
                      have HN9 : Hd (A9 = none → n6 - 6 = 0 ∧ c6 - 6 = 0) := ⟨fun h => cutA_none HN6.out (hA9 ▸ h)⟩
                      clear hA9
                      go_wp2_with (at_builtin; refine wpList_append_sl rfl (.tmp 98) (.tmp 101) 181 rfl 187 i0 (.agg #[.int .i64 0, .int .i64 0]) 2 16 Try.underlying181 hi0 hz0 hz1 hz2 rfl (by decide) (.slice A7 m7 d7) m7 _ rfl (by exact HO8.out.alloc _) (some ⟨w8.heap.size, 0, none⟩) 1 1 [.int .i64 16, .int .i64 6] (some w8.heap.size) rfl rfl (by exact sl_of_blk (blk_new _ _)) (by intro h; cases h) (by intro u hu; simp at hu; rcases hu with rfl | rfl <;> rfl) (by unfold maxLen; omega) (by omega) ?_; intro A3 d3 w3 hown' hgrow haft; have O3 := Hd.mk hown'; have G3 := Hd.mk hgrow; have F3 := Hd.mk haft; clear hown' hgrow haft)
                      go_wp2
                      go_roundg (gk - 1)
                      case measure => omega
                      case rel =>
                        refine ⟨D + 6, j - 6, A9, n6 - 6, c6 - 6, A3, m7 + 1, d3, P7 ++ [(16, 6)], rfl, rfl, by go_num, by omega, by omega, by omega, by omega, by omega, ⟨?_⟩, ⟨?_⟩, HY9, HN9, ⟨by rw [cells_app]; exact O3.out⟩, ⟨own_new HB7.out HF8.out.size F3.out⟩, ⟨(HF8.out.alloc _).grown G3.out (fun y hy => .inr (HB7.out y hy))⟩⟩
                        · have := HL7.out; rw [sixed_step h3, show min j 6 = 6 from by omega] at this; omega
                        · rw [← HP7.out, sixes_step h3, show min j 6 = 6 from by omega, List.append_assoc]
                          rfl
                    · skip
                      obtain ⟨A9, hA9⟩ : ∃ A9, A9 = cutA A6 c6 j 1 := ⟨_, rfl⟩
                      have hcutl : ∀ W : World, (Instr.slice 70 (.slice A6 n6 c6) (some (.int .i64 (j : Nat))) none none).run Try.prog W = .ok (.slice A9 (n6 - j) (c6 - j)) W := by
                        rw [hA9]
                        exact run_cut_from (P := Try.prog) 70 3 .i64 Try.underlying70 hj0 1 hj2 A6 n6 c6 j (by omega)
                      have HY9 : Hd (Sl wo A9 (i64s ((x :: t).drop (D + j))) p) := ⟨by
                        have := HY6.out.cut (k := j) (c := c6) (n := n6) (by simp only [i64s_length, List.length_drop, ← HNY.out]; omega) (by omega) (by omega)
                        rw [hA9]
                        simpa [i64s, List.map_drop, List.drop_drop] using this⟩
                      have HN9 : Hd (A9 = none → n6 - j = 0 ∧ c6 - j = 0) := ⟨fun h => cutA_none HN6.out (hA9 ▸ h)⟩
                      clear hA9
                      go_wp2_with (at_builtin; refine wpList_append_sl rfl (.tmp 98) (.tmp 101) 181 rfl 187 i0 (.agg #[.int .i64 0, .int .i64 0]) 2 16 Try.underlying181 hi0 hz0 hz1 hz2 rfl (by decide) (.slice A7 m7 d7) m7 _ rfl (by exact HO8.out.alloc _) (some ⟨w8.heap.size, 0, none⟩) 1 1 [.int .i64 16, .int .i64 (j : Nat)] (some w8.heap.size) rfl rfl (by exact sl_of_blk (blk_new _ _)) (by intro h; cases h) (by intro u hu; simp at hu; rcases hu with rfl | rfl <;> rfl) (by unfold maxLen; omega) (by omega) ?_; intro A3 d3 w3 hown' hgrow haft; have O3 := Hd.mk hown'; have G3 := Hd.mk hgrow; have F3 := Hd.mk haft; clear hown' hgrow haft)
                      go_wp2
                      go_roundg (gk - 1)
                      case measure => omega
                      case rel =>
                        refine ⟨D + j, j - j, A9, n6 - j, c6 - j, A3, m7 + 1, d3, P7 ++ [(16, (j : Int))], rfl, rfl, by go_num, by omega, by omega, by omega, by omega, by omega, ⟨?_⟩, ⟨?_⟩, HY9, HN9, ⟨by rw [cells_app]; exact O3.out⟩, ⟨own_new HB7.out HF8.out.size F3.out⟩, ⟨(HF8.out.alloc _).grown G3.out (fun y hy => .inr (HB7.out y hy))⟩⟩
                        · have := HL7.out; rw [sixed_step h3, show min j 6 = j from by omega] at this; omega
                        · rw [← HP7.out, sixes_step h3, show min j 6 = j from by omega, List.append_assoc]
                          rfl
                  · have hL7 : D = L := by have := HL7.out; rw [sixed_end (by omega)] at this; omega
                    subst hL7
                    go_wp2_with (fail)
                    refine (kinds_16 wr).mono ?_
                    rintro e w2 ⟨rfl, g1⟩
                    have HF8 := Hd.mk (HF7.out.trans g1 (by simp))
                    have HO8 := Hd.mk (own_frame HO7.out g1 (by simp))
                    clear g1
                    go_wp2
                    go_roundg (gx - D)
                    case measure => have := HI.out; omega
                    case rel =>
                      refine ⟨(x :: t).drop D, A6, c6, A7, m7, d7, P7, by rw [List.length_drop, ← HNY.out, show ny - D = n6 from by omega], rfl, by rw [List.length_drop, ← HNY.out, HI.out], by rw [List.length_drop, ← HNY.out]; omega, by rw [List.length_drop, ← HNY.out]; omega, HY6, ⟨?_⟩, ⟨?_⟩, HO8, HB7, HF8⟩
                      · intro h
                        rw [List.length_drop, ← HNY.out]
                        have := HN6.out h
                        omega
                      · have := HP7.out
                        rw [sixes_end (by omega), List.append_nil] at this
                        rw [← HP.out, this, List.append_assoc, runs_cons, ← HK.out, ← HR.out, ← HL.out]
end Go.Proofs.Ytkdgfioigkijgaa.Head
/- Runs as lengths: the document's Lens and the program's. Conditions: none but what memory bounds. -/
set_option linter.unusedVariables false
set_option linter.unusedSimpArgs false
set_option maxRecDepth 100000
namespace Go.Proofs.Ytkdgfioigkijgaa.Head
open Go.RowKit Go.Proofs.Ytkdgfioigkijgaa.Lib Go.Proofs.Ytkdgfioigkijgaa.Ints Go.Proofs.Ytkdgfioigkijgaa.Runs

def leastN (s : Int) : Int := if s < 16 then 1 else if s = 16 then 3 else if s = 17 then 3 else 11
def mostN (s : Int) : Int := if s < 16 then 1 else if s = 16 then 6 else if s = 17 then 10 else 138
theorem leastN_pos (s : Int) : 1 ≤ leastN s := by unfold leastN; split <;> (try split) <;> (try split) <;> omega
theorem mostN_le (s : Int) : mostN s ≤ 138 := by unfold mostN; split <;> (try split) <;> (try split) <;> omega
def okRun (out : List Int) (s k : Int) : Prop := 0 ≤ s ∧ s ≤ 18 ∧ leastN s ≤ k ∧ k ≤ mostN s ∧ ¬ (s = 16 ∧ out.length = 0) ∧ (out.length : Int) + k ≤ 320
instance (out : List Int) (s k : Int) : Decidable (okRun out s k) := by unfold okRun; exact inferInstance
theorem kinds_low (w : World) (s : Int) (h : s < 16) : Calls Try.prog 95 #[.int .i64 s] w fun e w' => e = .returned (.agg #[.int .i64 0, .int .i64 1, .int .i64 1]) ∧ Fr w w' [] := by
  go_enter Try.func95, Try.ntmps95
  go_wp2
  exact bodyPost_ret (v := .agg #[.int .i64 0, .int .i64 1, .int .i64 1]) (by simp [results, Try.results95, go_sem]) rfl ⟨rfl, ((Fr.refl _ _).alloc _).alloc _⟩
end Go.Proofs.Ytkdgfioigkijgaa.Head
/- Chapter 08, plain: what a head is told by. No condition. -/
set_option linter.unusedVariables false
set_option linter.unusedSimpArgs false
set_option maxRecDepth 100000
namespace Go.Proofs.Ytkdgfioigkijgaa.Head
open Go.RowKit Go.Proofs.Ytkdgfioigkijgaa.Lib Go.Proofs.Ytkdgfioigkijgaa.Ints Go.Proofs.Ytkdgfioigkijgaa.Runs
/-- how many are left where the noughts at the end are cut off -/
def cutN (l : List Int) (least : Nat) : Nat → Nat
  | 0 => 0
  | n + 1 => if least < n + 1 ∧ l.getD n 0 = 0 then cutN l least n else n + 1
def cutL (l : List Int) (least : Nat) : List Int := l.take (cutN l least l.length)
theorem cutN_le (l : List Int) (least : Nat) : ∀ n, cutN l least n ≤ n
  | 0 => Nat.le_refl 0
  | n + 1 => by
    rw [cutN]
    split
    · have := cutN_le l least n; omega
    · exact Nat.le_refl _
theorem cutN_ge (l : List Int) (least : Nat) : ∀ n, least ≤ n → least ≤ cutN l least n
  | 0, h => by simpa [cutN] using h
  | n + 1, h => by
    rw [cutN]
    split
    · rename_i h1
      exact cutN_ge l least n (by omega)
    · exact h
theorem cutL_len (l : List Int) (least : Nat) : (cutL l least).length = cutN l least l.length := by
  have := cutN_le l least l.length
  rw [cutL, List.length_take]
  omega
def distL (dist : List Int) : List Int := if (cutL dist 1).length = 0 then [0] else cutL dist 1
def allL (lit dist : List Int) : List Int := cutL lit 257 ++ distL dist
def okH (lit dist : List Int) : Bool := decide (257 ≤ lit.length ∧ lit.length ≤ 286 ∧ dist.length ≤ 30 ∧ Code.check lit = 0 ∧ Code.check dist = 0 ∧ lit.getD 256 0 ≠ 0)
def freqF (rs : List (Int × Int)) (i : Nat) : Nat := rs.countP fun r => decide (r.1 = (i : Int))
def freqOf (rs : List (Int × Int)) : List Int := (List.range 19).map fun i => (freqF rs i : Int)
def hlens (rs : List (Int × Int)) : List Int := (Lens.lensN 7 (freqOf rs)).1
def ord : List Nat := [16, 17, 18, 0, 8, 7, 9, 6, 10, 5, 11, 4, 12, 3, 13, 2, 14, 1, 15]
def toldN (l : List Int) : Nat → Nat
  | 0 => 4
  | j + 1 => if 0 < l.getD (ord.getD j 0) 0 then max (toldN l j) (j + 1) else toldN l j
theorem toldN_ge (l : List Int) : ∀ j, 4 ≤ toldN l j
  | 0 => Nat.le_refl 4
  | j + 1 => by
    rw [toldN]
    have := toldN_ge l j
    split <;> omega
theorem toldN_le (l : List Int) : ∀ j, toldN l j ≤ max 4 j
  | 0 => Nat.le_refl 4
  | j + 1 => by
    rw [toldN]
    have := toldN_le l j
    split <;> omega
def kbits (s : Int) : Int := if s < 16 then 0 else if s = 16 then 2 else if s = 17 then 3 else 7
/-- a run that may be -/
def RunB (r : Int × Int) : Prop := 0 ≤ r.1 ∧ r.1 ≤ 18 ∧ leastN r.1 ≤ r.2 ∧ r.2 ≤ mostN r.1 ∧ r.2 - leastN r.1 < 2 ^ (kbits r.1).toNat
theorem runB_of (s c L M B : Int) (h0 : 0 ≤ s) (h1 : s ≤ 18) (hL : leastN s = L) (hM : mostN s = M) (hB : (2 : Int) ^ (kbits s).toNat = B) (h2 : L ≤ c) (h3 : c ≤ M) (h4 : c - L < B) : RunB (s, c) :=
  ⟨h0, h1, by simp only [hL]; exact h2, by simp only [hM]; exact h3, by simp only [hL, hB]; exact h4⟩
theorem sixes_run : ∀ (f k : Nat), (∀ r ∈ sixes f k, RunB r) ∧ (sixes f k).length ≤ sixed f k
  | 0, k => ⟨fun r h => by simp [sixes] at h, by simp [sixes]⟩
  | f + 1, k => by
    rw [sixes, sixed]
    by_cases h' : ¬ k < 3
    · have h : 3 ≤ k := by omega
      rw [if_neg h', if_neg h']
      obtain ⟨h1, h2⟩ := sixes_run f (k - min k 6)
      refine ⟨fun r hr => ?_, by simp only [List.length_cons]; omega⟩
      rcases List.mem_cons.1 hr with e | hr
      · subst e
        exact runB_of 16 _ 3 6 4 (by decide) (by decide) (by decide) (by decide) (by decide) (by omega) (by omega) (by omega)
      · exact h1 r hr
    · have h : k < 3 := by omega
      rw [if_pos h, if_pos h]
      exact ⟨fun r h => absurd h (by simp), Nat.zero_le _⟩
theorem row_run {v : Int} {k : Nat} (h0 : 0 ≤ v) (h1 : v ≤ 15) (hk : 1 ≤ k) : (∀ r ∈ rowOf v k, RunB r) ∧ (rowOf v k).length ≤ Runs.rowLen v k := by
  unfold rowOf Runs.rowLen
  by_cases hv : v = 0
  · subst hv
    rw [if_pos rfl, if_pos rfl]
    by_cases h11 : 11 ≤ k
    · rw [if_pos h11, if_pos h11]
      refine ⟨fun r hr => ?_, by simp only [List.length_cons, List.length_nil]; omega⟩
      rw [List.mem_singleton] at hr
      subst hr
      exact runB_of 18 _ 11 138 128 (by decide) (by decide) (by decide) (by decide) (by decide) (by omega) (by omega) (by omega)
    · rw [if_neg h11, if_neg h11]
      by_cases h3 : 3 ≤ k
      · rw [if_pos h3, if_pos h3]
        refine ⟨fun r hr => ?_, by simp only [List.length_cons, List.length_nil]; omega⟩
        rw [List.mem_singleton] at hr
        subst hr
        exact runB_of 17 _ 3 10 8 (by decide) (by decide) (by decide) (by decide) (by decide) (by omega) (by omega) (by omega)
      · rw [if_neg h3, if_neg h3]
        refine ⟨fun r hr => ?_, by simp⟩
        rw [List.mem_singleton] at hr
        subst hr
        exact runB_of 0 1 1 1 1 (by decide) (by decide) (by decide) (by decide) (by decide) (by decide) (by decide) (by decide)
  · rw [if_neg hv, if_neg hv]
    obtain ⟨h2, h3⟩ := sixes_run (k - 1) (k - 1)
    refine ⟨fun r hr => ?_, by simp only [List.length_cons]; omega⟩
    rcases List.mem_cons.1 hr with e | hr
    · subst e
      have e1 : leastN v = 1 := by unfold leastN; rw [if_pos (by omega)]
      have e2 : mostN v = 1 := by unfold mostN; rw [if_pos (by omega)]
      have e3 : kbits v = 0 := by unfold kbits; rw [if_pos (by omega)]
      exact runB_of v 1 1 1 1 h0 (by omega) e1 e2 (by rw [e3]; rfl) (by decide) (by decide) (by decide)
    · exact h2 r hr
theorem runsF_run : ∀ (f : Nat) (l : List Int), (∀ x ∈ l, 0 ≤ x ∧ x ≤ 15) → (∀ r ∈ runsF f l, RunB r) ∧ (runsF f l).length ≤ l.length
  | 0, l, _ => by cases l <;> exact ⟨fun r h => by simp [runsF] at h, by simp [runsF]⟩
  | f + 1, [], _ => ⟨fun r h => by simp [runsF] at h, by simp [runsF]⟩
  | f + 1, v :: t, h => by
    rw [runsF]
    have hv := h v (by simp)
    have hk : 1 ≤ lead v t + 1 := by omega
    obtain ⟨h1, h2⟩ := row_run hv.1 hv.2 hk
    obtain ⟨h3, h4⟩ := runsF_run f ((v :: t).drop (Runs.rowLen v (lead v t + 1))) (fun x hx => h x (List.mem_of_mem_drop hx))
    refine ⟨fun r hr => ?_, ?_⟩
    · rcases List.mem_append.1 hr with e | e
      · exact h1 r e
      · exact h3 r e
    · have := rowLen_le v hk
      have := lead_le v t
      rw [List.length_append]
      rw [List.length_drop] at h4
      simp only [List.length_cons] at h4 ⊢
      omega
theorem runs_run {l : List Int} (h : ∀ x ∈ l, 0 ≤ x ∧ x ≤ 15) : (∀ r ∈ runs l, RunB r) ∧ (runs l).length ≤ l.length := runsF_run _ l h
end Go.Proofs.Ytkdgfioigkijgaa.Head
