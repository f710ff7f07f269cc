/- Texts of this claim, one behind the other: BlkL, HeadRow, HeadRuns. -/
import Derived.Test.YtkdgfioigkijgaaGreatH01
import Derived.Test.YtkdgfioigkijgaaGreatH03
import Derived.Test.YtkdgfioigkijgaaGreatH04
import Derived.Test.YtkdgfioigkijgaaGreatH05
import Derived.Test.YtkdgfioigkijgaaGreatH06
import Derived.Deep.CutBlock
/- Chapter 09: tokens and the end by codes, laid down. Conditions: the tokens are right, at most 65536; the writer has fewer than 2^49 bits. -/
set_option linter.unusedVariables false
set_option linter.unusedSimpArgs false
set_option maxRecDepth 100000
namespace Go.Proofs.YtkdgfioigkijgaaGreat.Blk
open Go.RowKit Go.Proofs.YtkdgfioigkijgaaGreat.Lib Go.Proofs.YtkdgfioigkijgaaGreat.Ints Go.Proofs.YtkdgfioigkijgaaGreat.Lz Go.Proofs.YtkdgfioigkijgaaGreat.Num Go.Proofs.YtkdgfioigkijgaaGreat.Bits Go.Proofs.YtkdgfioigkijgaaGreat.Code
set_option maxHeartbeats 8000000 in
theorem lay_any (w : World) (X Y : Option Addr) (nx cx ny cy : Nat) (lit dist : List Int) (px py : Option Nat) (hX : SlArg w X nx cx (i64s lit) px) (hY : SlArg w Y ny cy (i64s dist) py) (hcx : check lit = 0) (hcy : check dist = 0)
    (A : Option Addr) (n c : Nat) (l : List Tok) (p : Option Nat) (hn : l.length = n) (hS : Sl w A (tcells l) p) (hb : n ≤ 65536) (hr : ∀ t ∈ l, right t = true) (hl : LitB l)
    (gw N m : Nat) (q : Option Nat) (hT : Tl w gw 27 N m q) (hp : ∀ k, p = some k → k ∉ gw :: q.toList) (hm : m ≤ 562949953421312) (er : Int) (her : er = if bitsOf lit 256 = 0 then 53 else 0) :
    Calls Tryz.prog 138 #[.pointer (some ⟨gw, 0, none⟩), .slice X nx cx, .slice Y ny cy, .slice A n c] w fun e w' => e = .returned (.int .i64 er) ∧ ∃ q', Pw w w' gw q q' N m (bodyP lit dist l) := by
  subst hn
  have HS := Hd.mk hS
  have HX := Hd.mk hX
  have HY := Hd.mk hY
  have HC := Hd.mk (And.intro hcx hcy)
  have HR := Hd.mk (And.intro hr hl)
  have HP := Hd.mk hp
  have T0 := Hd.mk hT
  have HER := Hd.mk her
  clear hS hX hY hcx hcy hr hl hp hT her
  go_enter Tryz.func138, Tryz.ntmps138
  go_wp2_with (fail)
  refine (newenc_any w X nx cx lit px HX.out 0 HC.out.1.symm).mono ?_
  rintro e w1 ⟨p1, rfl, hf1, _, h3⟩
  obtain ⟨gx, ga, da, B, db, L, rfl, hE, _⟩ := h3 rfl
  have EX1 : Hd (EnP w1 gx lit) := ⟨⟨ga, da, B, db, L, hE⟩⟩
  have F1 := Hd.mk hf1
  clear hf1 h3 hE HX
  go_wp2_with (fail)
  refine (newenc_any w1 Y ny cy dist py (HY.out.frame F1.out (by simp)) 0 HC.out.2.symm).mono ?_
  rintro e w2 ⟨p2, rfl, hf2, _, h3⟩
  obtain ⟨gy, ga', da', B', db', L', rfl, hE, _⟩ := h3 rfl
  have EY2 : Hd (EnP w2 gy dist) := ⟨⟨ga', da', B', db', L', hE⟩⟩
  have EX2 := Hd.mk (EX1.out.call hf2)
  have F2 := Hd.mk (F1.out.trans hf2 (by simp))
  have W2 : Hd (∃ qj, Pw w w2 gw q qj N m (toksP lit dist (l.take 0))) := ⟨⟨q, (Pw.start T0.out).call F2.out⟩⟩
  clear hf2 h3 hE HY F1 EX1 F2
  go_wp2
  go_loopg [35] l.length (fun kq jv wr => ∃ j : Nat, jv = .int .i64 (j : Nat) ∧ j + kq = l.length ∧ Hd (EnP wr gx lit) ∧ Hd (EnP wr gy dist) ∧ Hd (∃ qj, Pw w wr gw q qj N m (toksP lit dist (l.take j))))
  case atStart => exact ⟨0, rfl, by omega, EX2, EY2, W2⟩
  case round =>
    obtain ⟨j, rfl, hj, EX, EY, HW⟩ := hrel
    obtain ⟨⟨qj, hPj⟩⟩ := HW
    have PJ := Hd.mk hPj
    clear hPj
    have hmj : Hd (totOf (toksP lit dist (l.take j)) ≤ 48 * 65536) := ⟨by
      have := toksP_le HC.out.1 HC.out.2 (l.take j) (fun u hu => HR.out.1 u (List.mem_of_mem_take hu)) (fun u hu => HR.out.2 u (List.mem_of_mem_take hu))
      rw [List.length_take] at this
      omega⟩
    by_cases h1 : j < l.length
    · obtain ⟨a, o1, rfl, _, hcc⟩ := Sl.row (enc := tcell) (sz := 3) (fun _ => rfl) (HS.out.frame PJ.out.fr HP.out) h1 (by decide)
      obtain ⟨t, ht⟩ : ∃ t, t = l[j] := ⟨_, rfl⟩
      rw [← ht] at hcc
      have c0 := hcc 0 (by decide)
      have c1 := hcc 1 (by decide)
      have c2 := hcc 2 (by decide)
      simp only [tcell, List.getElem?_cons_zero, List.getElem?_cons_succ, Nat.add_zero] at c0 c1 c2
      have htm : t ∈ l := by rw [ht]; exact List.getElem_mem h1
      have hrt := HR.out.1 t htm
      have hlt := HR.out.2 t htm
      have HTK : Hd (toksP lit dist (l.take (j + 1)) = toksP lit dist (l.take j) ++ tokP lit dist t) := ⟨by rw [toksP_take h1, ht]⟩
      have HTD : Hd (tokP lit dist t = [Code.part lit (sgA t).1, ((sgA t).2.1.toNat, (sgA t).2.2.toNat)] ++ if t.len = 0 then [] else [Code.part dist (sgB t).1, ((sgB t).2.1.toNat, (sgB t).2.2.toNat)]) := ⟨rfl⟩
      have sa := (sgA_fit hrt hlt).1
      have sb := sgB_fit hrt
      clear hcc ht htm
      generalize toksP lit dist (l.take j) = PR at *
      go_wp2_with (fail)
      refine (signs_any _ t hlt).mono ?_
      rintro e w3 ⟨rfl, h2⟩
      have f3 := ((Fr.refl wr []).alloc (.cells #[.int .u8 t.lit, .int .i64 t.len, .int .i64 t.dist] 77)).trans h2 (by simp)
      have PJ3 := Hd.mk (PJ.out.call f3)
      have EX3 := Hd.mk (EX.out.call f3)
      have EY3 := Hd.mk (EY.out.call f3)
      clear h2 f3 EX EY PJ
      obtain ⟨⟨sx, vx, bxx⟩, hsa⟩ : ∃ x, x = sgA t := ⟨_, rfl⟩
      obtain ⟨⟨sy, vy, byy⟩, hsb2⟩ : ∃ x, x = sgB t := ⟨_, rfl⟩
      rw [← hsa] at sa HTD ⊢
      rw [← hsb2] at sb HTD ⊢
      obtain ⟨_, ⟨a3, a4⟩, a5, a6⟩ := sa
      obtain ⟨_, ⟨b3, b4⟩, b5, b6⟩ := sb
      clear hsa hsb2
      simp only at a3 a4 a5 a6 b3 b4 b5 b6 HTD
      obtain ⟨vx, rfl⟩ := Int.eq_ofNat_of_zero_le a5
      obtain ⟨vy, rfl⟩ := Int.eq_ofNat_of_zero_le b5
      obtain ⟨bxx, rfl⟩ := Int.eq_ofNat_of_zero_le a3
      obtain ⟨byy, rfl⟩ := Int.eq_ofNat_of_zero_le b3
      simp only [Int.toNat_natCast] at a6 b6 HTD
      have a7 : vx < 2 ^ bxx := by exact_mod_cast a6
      have b7 : vy < 2 ^ byy := by exact_mod_cast b6
      have hvx : vx < 8192 := Nat.lt_of_lt_of_le a7 (Nat.pow_le_pow_right (by omega) (show bxx ≤ 13 by omega))
      have hvy : vy < 8192 := Nat.lt_of_lt_of_le b7 (Nat.pow_le_pow_right (by omega) (show byy ≤ 13 by omega))
      have A7 := Hd.mk a7
      have B7 := Hd.mk b7
      clear a6 b6 a7 b7
      simp only [sgV]
      obtain ⟨mt, hmt⟩ : ∃ m, m = decide (t.len ≠ 0) := ⟨_, rfl⟩
      rw [← hmt]
      have HMT := Hd.mk hmt
      clear hmt
      go_upto_region 11 with (fail)
      have B1 : Hd (((w3.alloc (.cells #[.int .i64 sx, .int .i64 (vx : Nat), .int .i64 (bxx : Nat)] 269)).alloc (.cells #[.int .i64 sy, .int .i64 (vy : Nat), .int .i64 (byy : Nat)] 269)).heap[w3.heap.size]? = some (.cells #[.int .i64 sx, .int .i64 (vx : Nat), .int .i64 (bxx : Nat)] 269 (0, 0))) := ⟨blk_alloc (blk_new w3 _) _⟩
      have B2 : Hd (((w3.alloc (.cells #[.int .i64 sx, .int .i64 (vx : Nat), .int .i64 (bxx : Nat)] 269)).alloc (.cells #[.int .i64 sy, .int .i64 (vy : Nat), .int .i64 (byy : Nat)] 269)).heap[w3.heap.size + 1]? = some (.cells #[.int .i64 sy, .int .i64 (vy : Nat), .int .i64 (byy : Nat)] 269 (0, 0))) := ⟨by simpa using blk_new (w3.alloc _) _⟩
      have f4 := ((Fr.refl w3 []).alloc (.cells #[.int .i64 sx, .int .i64 (vx : Nat), .int .i64 (bxx : Nat)] 269)).alloc (.cells #[.int .i64 sy, .int .i64 (vy : Nat), .int .i64 (byy : Nat)] 269)
      have PJ4 := Hd.mk (PJ3.out.call f4)
      have EX4 := Hd.mk (EX3.out.call f4)
      have EY4 := Hd.mk (EY3.out.call f4)
      clear f4 EX3 EY3 PJ3
      generalize (w3.alloc (.cells #[.int .i64 sx, .int .i64 (vx : Nat), .int .i64 (bxx : Nat)] 269)).alloc (.cells #[.int .i64 sy, .int .i64 (vy : Nat), .int .i64 (byy : Nat)] 269) = w4 at *
      generalize w3.heap.size = g at *
      have d0 := blk_cell B1.out 0
      simp only [List.getElem?_toArray, List.getElem?_cons_zero, List.getElem?_cons_succ] at d0
      go_wp2_with (fail)
      obtain ⟨er1, he1⟩ : ∃ e1 : Int, e1 = if bitsOf lit sx = 0 then 53 else 0 := ⟨_, rfl⟩
      refine (eput sx EX4.out PJ4.out.tl (by have := hmj.out; omega) er1 he1).mono ?_
      clear he1
      rintro e w5 ⟨rfl, hpl⟩
      have hpl' := hpl
      obtain ⟨q5, _, _, f5⟩ := hpl'
      have EX5 := Hd.mk (EX4.out.keep PJ4.out.tl f5)
      have EY5 := Hd.mk (EY4.out.keep PJ4.out.tl f5)
      have B15 := Hd.mk (tl_keep PJ4.out.tl B1.out (by decide) (by decide) f5)
      have B25 := Hd.mk (tl_keep PJ4.out.tl B2.out (by decide) (by decide) f5)
      obtain ⟨q5', h5⟩ := PJ4.out.put hpl
      have PJ5 := Hd.mk h5
      clear h5 hpl f5 d0 B1 B2 EX4 EY4 PJ4
      have d1 := blk_cell B15.out 1
      have d2 := blk_cell B15.out 2
      simp only [List.getElem?_toArray, List.getElem?_cons_zero, List.getElem?_cons_succ] at d1 d2
      have ht5 : Hd (totOf (PR ++ [Code.part lit sx]) ≤ 48 * 65536 + 15) := ⟨by have := hmj.out; have := part_le HC.out.1 sx; rw [totOf_snoc2]; omega⟩
      go_wp2_with (fail)
      refine (wput (vx : Int) (bxx : Int) vx rfl (by simpa using A7.out) (by omega) (by omega) PJ5.out.tl (by rw [Int.toNat_natCast]; have := ht5.out; omega)).mono ?_
      rintro e w6 ⟨rfl, hpl⟩
      rw [Int.toNat_natCast] at hpl
      have hpl' := hpl
      obtain ⟨q6, _, _, f6⟩ := hpl'
      have EX6 := Hd.mk (EX5.out.keep PJ5.out.tl f6)
      have EY6 := Hd.mk (EY5.out.keep PJ5.out.tl f6)
      have B26 := Hd.mk (tl_keep PJ5.out.tl B25.out (by decide) (by decide) f6)
      obtain ⟨q6', h6⟩ := PJ5.out.put hpl
      have PJ6 := Hd.mk h6
      clear h6 hpl f6 d1 d2 B15 B25 EX5 EY5 PJ5
      cases mt with
      | false =>
        have hlen0 : t.len = 0 := by have := HMT.out; simpa using this
        rw [if_pos hlen0, List.append_nil] at HTD
        go_wp2
        go_roundg (gk - 1)
        case measure => omega
        case rel => exact ⟨j + 1, by go_num, by omega, EX6, EY6, ⟨q6', by rw [HTK.out, HTD.out]; have := PJ6.out; rwa [List.append_assoc] at this⟩⟩
      | true =>
        have hlen0 : ¬ t.len = 0 := by have := HMT.out; simpa using this
        rw [if_neg hlen0] at HTD
        have d0 := blk_cell B26.out 0
        simp only [List.getElem?_toArray, List.getElem?_cons_zero, List.getElem?_cons_succ] at d0
        have ht6 : Hd (totOf (PR ++ [Code.part lit sx] ++ [(vx, bxx)]) ≤ 48 * 65536 + 15 + 5) := ⟨by have := ht5.out; rw [totOf_snoc]; omega⟩
        go_wp2_with (fail)
        obtain ⟨er2, he2⟩ : ∃ e1 : Int, e1 = if bitsOf dist sy = 0 then 53 else 0 := ⟨_, rfl⟩
        refine (eput sy EY6.out PJ6.out.tl (by have := ht6.out; omega) er2 he2).mono ?_
        clear he2
        rintro e w7 ⟨rfl, hpl⟩
        have hpl' := hpl
        obtain ⟨q7, _, _, f7⟩ := hpl'
        have EX7 := Hd.mk (EX6.out.keep PJ6.out.tl f7)
        have EY7 := Hd.mk (EY6.out.keep PJ6.out.tl f7)
        have B27 := Hd.mk (tl_keep PJ6.out.tl B26.out (by decide) (by decide) f7)
        obtain ⟨q7', h7⟩ := PJ6.out.put hpl
        have PJ7 := Hd.mk h7
        clear h7 hpl f7 d0 B26 EX6 EY6 PJ6
        have d1 := blk_cell B27.out 1
        have d2 := blk_cell B27.out 2
        simp only [List.getElem?_toArray, List.getElem?_cons_zero, List.getElem?_cons_succ] at d1 d2
        have ht7 : Hd (totOf (PR ++ [Code.part lit sx] ++ [(vx, bxx)] ++ [Code.part dist sy]) ≤ 48 * 65536 + 15 + 5 + 15) := ⟨by have := ht6.out; have := part_le HC.out.2 sy; rw [totOf_snoc2]; omega⟩
        go_wp2_with (fail)
        refine (wput (vy : Int) (byy : Int) vy rfl (by simpa using B7.out) (by omega) (by omega) PJ7.out.tl (by rw [Int.toNat_natCast]; have := ht7.out; omega)).mono ?_
        rintro e w8 ⟨rfl, hpl⟩
        rw [Int.toNat_natCast] at hpl
        have hpl' := hpl
        obtain ⟨q8, _, _, f8⟩ := hpl'
        have EX8 := Hd.mk (EX7.out.keep PJ7.out.tl f8)
        have EY8 := Hd.mk (EY7.out.keep PJ7.out.tl f8)
        obtain ⟨q8', h8⟩ := PJ7.out.put hpl
        have PJ8 := Hd.mk h8
        clear h8 hpl f8 d1 d2 B27 EX7 EY7 PJ7
        go_wp2
        go_roundg (gk - 1)
        case measure => omega
        case rel => exact ⟨j + 1, by go_num, by omega, EX8, EY8, ⟨q8', by rw [HTK.out, HTD.out]; have := PJ8.out; simpa [List.append_assoc] using this⟩⟩
    · obtain rfl : j = l.length := by omega
      rw [List.take_length] at PJ hmj
      go_wp2_with (fail)
      refine (eput 256 EX.out PJ.out.tl (by have := hmj.out; omega) er HER.out).mono ?_
      rintro e w5 ⟨rfl, hpl⟩
      obtain ⟨q5', h5⟩ := PJ.out.put hpl
      have PJ5 := Hd.mk h5
      clear h5 hpl
      go_wp2
      go_ret
      exact ⟨rfl, q5', PJ5.out⟩
end Go.Proofs.YtkdgfioigkijgaaGreat.Blk
/- kinds and row (chapter 08): what they answer. Conditions: at most 2^40 lengths. -/
set_option linter.unusedVariables false
set_option linter.unusedSimpArgs false
set_option maxRecDepth 100000
namespace Go.Proofs.YtkdgfioigkijgaaGreat.Head
open Go.RowKit Go.Proofs.YtkdgfioigkijgaaGreat.Lib Go.Proofs.YtkdgfioigkijgaaGreat.Ints Go.Proofs.YtkdgfioigkijgaaGreat.Runs

def enc (r : Int × Int) : List Value := [.int .i64 r.1, .int .i64 r.2]
def cells (rs : List (Int × Int)) : List Value := rs.flatMap enc
theorem cells_app (a b : List (Int × Int)) : cells (a ++ b) = cells a ++ cells b := by simp [cells]
theorem cells_len (a : List (Int × Int)) : (cells a).length = 2 * a.length := by
  induction a with
  | nil => rfl
  | cons x t ih => simp only [cells, List.flatMap_cons, List.length_append] at ih ⊢; rw [ih]; simp [enc]; omega
theorem infoRun : (Tryz.prog.info? 188).map (fun i => (i.zero, i.size, i.bytes)) = some (some (.agg #[.int .i64 0, .int .i64 0]), 2, 16) := by kernel_rfl
theorem kinds_16 (w : World) : Calls Tryz.prog 178 #[.int .i64 16] w fun e w' => e = .returned (.agg #[.int .i64 2, .int .i64 3, .int .i64 6]) ∧ Fr w w' [] := by
  go_enter Tryz.func178, Tryz.ntmps178
  go_wp2
  exact bodyPost_ret (v := .agg #[.int .i64 2, .int .i64 3, .int .i64 6]) (by simp [results, Tryz.results178, go_sem]) rfl ⟨rfl, ((Fr.refl _ _).alloc _).alloc _⟩
theorem kinds_17 (w : World) : Calls Tryz.prog 178 #[.int .i64 17] w fun e w' => e = .returned (.agg #[.int .i64 3, .int .i64 3, .int .i64 10]) ∧ Fr w w' [] := by
  go_enter Tryz.func178, Tryz.ntmps178
  go_wp2
  exact bodyPost_ret (v := .agg #[.int .i64 3, .int .i64 3, .int .i64 10]) (by simp [results, Tryz.results178, go_sem]) rfl ⟨rfl, ((Fr.refl _ _).alloc _).alloc _⟩
theorem kinds_18 (w : World) : Calls Tryz.prog 178 #[.int .i64 18] w fun e w' => e = .returned (.agg #[.int .i64 7, .int .i64 11, .int .i64 138]) ∧ Fr w w' [] := by
  go_enter Tryz.func178, Tryz.ntmps178
  go_wp2
  exact bodyPost_ret (v := .agg #[.int .i64 7, .int .i64 11, .int .i64 138]) (by simp [results, Tryz.results178, go_sem]) rfl ⟨rfl, ((Fr.refl _ _).alloc _).alloc _⟩
theorem row_any (w : World) (v : Int) (k : Nat) (h1 : 1 ≤ k) (h2 : k ≤ 1099511627776) :
    Calls Tryz.prog 151 #[.int .i64 v, .int .i64 (k : Nat)] w fun e w' => ∃ A n c, e = .returned (.slice A n c) ∧ w'.ownsRow 0 188 2 (.slice A n c) n (cells (rowOf v k)) ∧ (∀ j, (Value.slice A n c).ownBlock = some j → w.heap.size ≤ j) ∧ Fr w w' [] := by
  obtain ⟨i0, hi0, hz0, hz1, hz2⟩ := info_parts infoRun
  by_cases hv : v = 0
  · subst hv
    by_cases h11 : 11 ≤ k
    · by_cases h138 : 138 < k
      · have hr : Hd (rowOf 0 k = [(18, 138)]) := ⟨by unfold rowOf; rw [if_pos rfl, if_pos h11, show min k 138 = 138 from by omega]; rfl⟩
        go_enter Tryz.func151, Tryz.ntmps151
        go_wp2
        go_ret
        rw [hr.out]
        exact ⟨_, _, _, rfl, World.ownsRow_lit w #[.int .i64 18, .int .i64 138] 1 (Nat.zero_le _) (by decide) rfl, by intro j hj; cases hj; exact Nat.le_refl _, (Fr.refl _ _).alloc _⟩
      · have hr : Hd (rowOf 0 k = [(18, (k : Int))]) := ⟨by unfold rowOf; rw [if_pos rfl, if_pos h11, show min k 138 = k from by omega]⟩
        go_enter Tryz.func151, Tryz.ntmps151
        go_wp2
        go_ret
        rw [hr.out]
        exact ⟨_, _, _, rfl, World.ownsRow_lit w #[.int .i64 18, .int .i64 k] 1 (Nat.zero_le _) (by decide) rfl, by intro j hj; cases hj; exact Nat.le_refl _, (Fr.refl _ _).alloc _⟩
    · by_cases h3 : 3 ≤ k
      · have hr : Hd (rowOf 0 k = [(17, (k : Int))]) := ⟨by unfold rowOf; rw [if_pos rfl, if_neg h11, if_pos h3]⟩
        go_enter Tryz.func151, Tryz.ntmps151
        go_wp2
        go_ret
        rw [hr.out]
        exact ⟨_, _, _, rfl, World.ownsRow_lit w #[.int .i64 17, .int .i64 k] 1 (Nat.zero_le _) (by decide) rfl, by intro j hj; cases hj; exact Nat.le_refl _, (Fr.refl _ _).alloc _⟩
      · have hr : Hd (rowOf 0 k = [(0, 1)]) := ⟨by unfold rowOf; rw [if_pos rfl, if_neg h11, if_neg h3]⟩
        go_enter Tryz.func151, Tryz.ntmps151
        go_wp2
        go_ret
        rw [hr.out]
        exact ⟨_, _, _, rfl, World.ownsRow_lit w #[.int .i64 0, .int .i64 1] 1 (Nat.zero_le _) (by decide) rfl, by intro j hj; cases hj; exact Nat.le_refl _, (Fr.refl _ _).alloc _⟩
  · have hr : Hd (rowOf v k = (v, 1) :: sixes (k - 1) (k - 1)) := ⟨by unfold rowOf; rw [if_neg hv]⟩
    have hvb : (v == 0) = false := by simpa using hv
    go_enter Tryz.func151, Tryz.ntmps151
    go_wp2
    go_loopg [1, 5] k (fun kq kv sv wr => ∃ (j : Nat) (A : Option Addr) (n c : Nat) (P : List (Int × Int)), kv = .int .i64 (j : Nat) ∧ sv = .slice A n c ∧ j + n ≤ k ∧ j + 1 ≤ kq ∧ Hd (P ++ sixes j j = (v, 1) :: sixes (k - 1) (k - 1)) ∧ Hd (wr.ownsRow 0 188 2 (.slice A n c) n (cells P)) ∧ Hd (∀ j, (Value.slice A n c).ownBlock = some j → w.heap.size ≤ j) ∧ Hd (Fr w wr []))
    case atStart => exact ⟨k - 1, some ⟨w.heap.size, 0, none⟩, 1, 1, [(v, 1)], by go_num, rfl, by omega, by omega, ⟨rfl⟩, ⟨World.ownsRow_lit w #[.int .i64 v, .int .i64 1] 1 (Nat.zero_le _) (by decide) rfl⟩, ⟨by intro j hj; cases hj; exact Nat.le_refl _⟩, ⟨(Fr.refl _ _).alloc _⟩⟩
    case round =>
      obtain ⟨j, A, n, c, P, rfl, rfl, hjn, hjk, HP, HO, HB, HF⟩ := hrel
      by_cases h3 : 3 ≤ j
      · by_cases h6 : 6 < j
        · go_wp2_with (at_builtin; refine wpList_append_sl rfl (.tmp 33) (.tmp 36) 184 rfl 188 i0 (.agg #[.int .i64 0, .int .i64 0]) 2 16 Tryz.underlying184 hi0 hz0 hz1 hz2 rfl (by decide) (.slice A n c) n _ rfl (by exact HO.out.alloc _) (some ⟨wr.heap.size, 0, none⟩) 1 1 [.int .i64 16, .int .i64 6] (some wr.heap.size) rfl rfl (by exact sl_of_blk (blk_new _ _)) (by intro h; cases h) (by intro u hu; simp at hu; rcases hu with rfl | rfl <;> rfl) (by unfold maxLen; omega) (by omega) ?_; intro A' c' w1 hown' hgrow haft; have O1 := Hd.mk hown'; have G1 := Hd.mk hgrow; have F1 := Hd.mk haft; clear hown' hgrow haft)
          go_roundg (gk - 1)
          case measure => omega
          case rel =>
            refine ⟨j - 6, A', n + 1, c', P ++ [(16, 6)], by go_num, rfl, by omega, by omega, ⟨?_⟩, ⟨?_⟩, ⟨fun x hx => ?_⟩, ⟨(HF.out.alloc _).grown G1.out (fun x hx => .inr (HB.out x hx))⟩⟩
            · rw [← HP.out, sixes_step h3, show min j 6 = 6 from by omega, List.append_assoc]
              rfl
            · rw [cells_app]; exact O1.out
            · rcases F1.out with h | ⟨y, h, hy⟩
              · rw [← h] at HB; exact HB.out x hx
              · rw [h] at hx; cases hx
                have := HF.out.size
                simp at hy
                omega
        · go_wp2_with (at_builtin; refine wpList_append_sl rfl (.tmp 33) (.tmp 36) 184 rfl 188 i0 (.agg #[.int .i64 0, .int .i64 0]) 2 16 Tryz.underlying184 hi0 hz0 hz1 hz2 rfl (by decide) (.slice A n c) n _ rfl (by exact HO.out.alloc _) (some ⟨wr.heap.size, 0, none⟩) 1 1 [.int .i64 16, .int .i64 (j : Nat)] (some wr.heap.size) rfl rfl (by exact sl_of_blk (blk_new _ _)) (by intro h; cases h) (by intro u hu; simp at hu; rcases hu with rfl | rfl <;> rfl) (by unfold maxLen; omega) (by omega) ?_; intro A' c' w1 hown' hgrow haft; have O1 := Hd.mk hown'; have G1 := Hd.mk hgrow; have F1 := Hd.mk haft; clear hown' hgrow haft)
          go_roundg (gk - 1)
          case measure => omega
          case rel =>
            refine ⟨j - j, A', n + 1, c', P ++ [(16, (j : Int))], by go_num, rfl, by omega, by omega, ⟨?_⟩, ⟨?_⟩, ⟨fun x hx => ?_⟩, ⟨(HF.out.alloc _).grown G1.out (fun x hx => .inr (HB.out x hx))⟩⟩
            · rw [← HP.out, sixes_step h3, show min j 6 = j from by omega, List.append_assoc]
              rfl
            · rw [cells_app]; exact O1.out
            · rcases F1.out with h | ⟨y, h, hy⟩
              · rw [← h] at HB; exact HB.out x hx
              · rw [h] at hx; cases hx
                have := HF.out.size
                simp at hy
                omega
      · go_wp2
        go_ret
        have := HP.out
        rw [sixes_end (by omega), List.append_nil] at this
        rw [hr.out, ← this]
        exact ⟨A, n, c, rfl, HO.out, HB.out, HF.out⟩
end Go.Proofs.YtkdgfioigkijgaaGreat.Head
/- The document's Runs. Conditions: none but what memory bounds. -/
set_option linter.unusedVariables false
set_option linter.unusedSimpArgs false
set_option maxRecDepth 100000
namespace Go.Proofs.YtkdgfioigkijgaaGreat.Head
open Go.RowKit Go.Proofs.YtkdgfioigkijgaaGreat.Lib Go.Proofs.YtkdgfioigkijgaaGreat.Ints Go.Proofs.YtkdgfioigkijgaaGreat.Runs

/-- is there one that is out of bounds? -/
def out (hi : Int) (xs : List Int) : Bool := xs.any fun x => decide (x < 0 ∨ hi < x)
theorem out_true {hi : Int} {xs : List Int} {j : Nat} (h : j < xs.length) (hx : xs[j] < 0 ∨ hi < xs[j]) : out hi xs = true := by
  simp only [out, List.any_eq_true, decide_eq_true_eq]
  exact ⟨_, List.getElem_mem h, hx⟩
theorem out_false {hi : Int} {xs : List Int} (h : ∀ i, (hi' : i < xs.length) → 0 ≤ xs[i] ∧ xs[i] ≤ hi) : out hi xs = false := by
  rw [Bool.eq_false_iff]
  intro hc
  simp only [out, List.any_eq_true, decide_eq_true_eq] at hc
  obtain ⟨x, hx, h1⟩ := hc
  obtain ⟨i, hi', rfl⟩ := List.getElem_of_mem hx
  have := h i hi'
  omega
def bad (xs : List Int) : Bool := decide (320 < xs.length) || out 15 xs
theorem sixes_sum (f k : Nat) : ((sixes f k).map fun r => r.2).sum = (sixed f k : Nat) := by
  induction f generalizing k with
  | zero => rfl
  | succ f ih =>
    simp only [sixes, sixed]
    split
    · rfl
    · rw [List.map_cons, List.sum_cons, ih]; omega
theorem rowLen_sum (v : Int) (k : Nat) : ((rowOf v k).map fun r => r.2).sum = (Runs.rowLen v k : Nat) := by
  unfold rowOf Runs.rowLen
  split
  · split
    · simp
    · split <;> simp
  · rw [List.map_cons, List.sum_cons, sixes_sum]; omega
theorem row_ne (v : Int) (k : Nat) : rowOf v k ≠ [] := by
  unfold rowOf
  split
  · split
    · simp
    · split <;> simp
  · simp
theorem row_len (v : Int) {k : Nat} (h : 1 ≤ k) : (rowOf v k).length ≤ Runs.rowLen v k := by
  have hs : ∀ f k, (sixes f k).length ≤ sixed f k := by
    intro f
    induction f with
    | zero => intro k; exact Nat.le_refl _
    | succ f ih =>
      intro k
      simp only [sixes, sixed]
      split
      · exact Nat.le_refl _
      · have := ih (k - min k 6); simp only [List.length_cons]; omega
  unfold rowOf Runs.rowLen
  split
  · split
    · simp; omega
    · split <;> simp <;> omega
  · have := hs (k - 1) (k - 1); simp only [List.length_cons]; omega
/-- how far the first x runs of a row reach -/
def reach (rs : List (Int × Int)) (x : Nat) : Int := ((rs.take x).map fun r => r.2).sum
theorem reach_succ {rs : List (Int × Int)} {x : Nat} (h : x < rs.length) : reach rs (x + 1) = reach rs x + (rs[x]).2 := by
  unfold reach
  rw [List.take_succ_eq_append_getElem h, List.map_append, List.sum_append]
  simp
theorem row_pos {v : Int} {k : Nat} (hk : 1 ≤ k) : ∀ r ∈ rowOf v k, 0 ≤ r.2 := by
  have hs : ∀ f k, ∀ r ∈ sixes f k, 0 ≤ r.2 := by
    intro f
    induction f with
    | zero => intro k r hr; simp [sixes] at hr
    | succ f ih =>
      intro k r hr
      simp only [sixes] at hr
      split at hr
      · simp at hr
      · rcases List.mem_cons.1 hr with rfl | h
        · exact Int.natCast_nonneg _
        · exact ih _ r h
  intro r hr
  unfold rowOf at hr
  split at hr
  · split at hr
    · simp at hr; subst hr; exact Int.natCast_nonneg _
    · split at hr
      · simp at hr; subst hr; exact Int.natCast_nonneg _
      · simp at hr; subst hr; decide
  · rcases List.mem_cons.1 hr with rfl | h
    · exact Int.le.intro_sub 1 rfl
    · exact hs _ _ r h
theorem reach_mono {rs : List (Int × Int)} (h : ∀ r ∈ rs, 0 ≤ r.2) : ∀ x, 0 ≤ reach rs x ∧ reach rs x ≤ (rs.map fun r => r.2).sum := by
  induction rs with
  | nil => intro x; simp [reach]
  | cons a t ih =>
    intro x
    have h0 := h a (by simp)
    have ht := ih (fun r hr => h r (by simp [hr]))
    cases x with
    | zero =>
      have := (ht t.length).2
      have h2 := (ht t.length).1
      simp only [reach, List.take_length] at h2
      simp only [reach, List.take_zero, List.map_nil, List.sum_nil, List.map_cons, List.sum_cons]
      omega
    | succ x =>
      have := ht x
      simp only [reach, List.take_succ_cons, List.map_cons, List.sum_cons] at this ⊢
      omega
theorem sl_of_own2 {w : World} {base : Nat} {e : TypeId} {size : Nat} {A : Option Addr} {n c : Nat} {xs : List Value} (h : w.ownsRow base e size (.slice A n c) n xs) (hn : 0 < n) : Sl w A xs (Value.slice A n c).ownBlock := by
  intro hx
  obtain ⟨g, d, e1, _⟩ := own_some h hn
  injection e1 with e1 _ e2
  subst e1 e2
  refine ⟨g, 0, rfl, rfl, fun j hj => ?_⟩
  have := h.cells (g := g) rfl j xs[j] (by simp)
  rw [List.getElem?_eq_getElem hj, ← this]
  congr 1
  unfold Addr.add
  by_cases e2 : j = 0 <;> simp [e2]
theorem alloc_cell (w : World) (o : Obj) {b j : Nat} (hb : b < w.heap.size) : (w.alloc o).cell? ⟨b, j, none⟩ = w.cell? ⟨b, j, none⟩ := World.cell?_of_block (Below.heap_alloc w o b hb)
theorem rruns_any (w : World) (A : Option Addr) (n c : Nat) (xs : List Int) (p : Option Nat) (hn : xs.length = n) (hS : Sl w A (i64s xs) p) (hn1 : n ≤ 4611686018427387904) (ec : Int) (rs : List (Int × Int)) (hec : ec = if bad xs then 80 else 0) (hrs : rs = if bad xs then [] else runs xs) :
    Calls Tryz.prog 93 #[.slice A n c] w fun e w' => ∃ A' m d, e = .returned (.tuple #[.slice A' m d, .int .i64 ec]) ∧
      w'.ownsRow 0 188 2 (.slice A' m d) m (cells rs) ∧ (∀ j, (Value.slice A' m d).ownBlock = some j → w.heap.size ≤ j) ∧ Fr w w' [] := by
  obtain ⟨i0, hi0, hz0, hz1, hz2⟩ := info_parts infoRun
  subst hn
  have HS := Hd.mk hS
  have HEC := Hd.mk hec
  have HRS := Hd.mk hrs
  clear hS hec hrs
  by_cases hbig : 320 < xs.length
  · have hc : Hd (bad xs = true) := ⟨by unfold bad; rw [decide_eq_true hbig]; rfl⟩
    go_enter Tryz.func93, Tryz.ntmps93
    go_wp2
    go_ret2
    exact ⟨none, 0, 0, by rw [HEC.out, hc.out]; rfl, by rw [HRS.out, hc.out]; exact own_nil _ _ _ _, (by intro j hj; cases hj), Fr.refl _ _⟩
  · go_enter Tryz.func93, Tryz.ntmps93
    go_wp2
    go_loopg [4] xs.length (fun kq jv wr => ∃ j : Nat, jv = .int .i64 (j : Nat) ∧ j + kq = xs.length ∧ wr = w ∧ Hd (∀ i, i < j → (h : i < xs.length) → 0 ≤ xs[i] ∧ xs[i] ≤ 15))
    case atStart => exact ⟨0, rfl, by omega, rfl, ⟨fun i h => absurd h (Nat.not_lt_zero _)⟩⟩
    case round =>
      obtain ⟨j, rfl, hj, rfl, HA⟩ := hrel
      by_cases h1 : j < xs.length
      · obtain ⟨a, o1, rfl, _, ha⟩ := HS.out (by simp [i64s]; omega)
        obtain ⟨x, hx⟩ : ∃ x, x = xs[j] := ⟨_, rfl⟩
        have ca := (ha j (by simp [i64s]; omega)).trans (by rw [i64s_get, List.getElem?_eq_getElem (by omega), ← hx])
        have HX := Hd.mk hx
        clear ha hx
        by_cases h2 : x < 0
        · have hc : Hd (bad xs = true) := ⟨by unfold bad; rw [out_true h1 (by rw [← HX.out]; exact .inl h2), Bool.or_true]⟩
          go_wp2
          go_ret2
          exact ⟨none, 0, 0, by rw [HEC.out, hc.out]; rfl, by rw [HRS.out, hc.out]; exact own_nil _ _ _ _, (by intro j hj; cases hj), Fr.refl _ _⟩
        · by_cases h3 : 15 < x
          · have hc : Hd (bad xs = true) := ⟨by unfold bad; rw [out_true h1 (by rw [← HX.out]; exact .inr h3), Bool.or_true]⟩
            go_wp2
            go_ret2
            exact ⟨none, 0, 0, by rw [HEC.out, hc.out]; rfl, by rw [HRS.out, hc.out]; exact own_nil _ _ _ _, (by intro j hj; cases hj), Fr.refl _ _⟩
          · go_wp2
            go_roundg (gk - 1)
            case measure => omega
            case rel => exact ⟨j + 1, by go_num, by omega, rfl, ⟨fun i hi h => by
              by_cases e : i = j
              · subst e; rw [← HX.out]; omega
              · exact HA.out i (by omega) h⟩⟩
      · have hc : Hd (bad xs = false) := ⟨by unfold bad; rw [out_false (fun i hi => HA.out i (by omega) hi), decide_eq_false hbig]; rfl⟩
        clear HA
        obtain ⟨wo, rfl⟩ : ∃ wo : World, wo = wr := ⟨_, rfl⟩
        go_wp2
        go_loopg [5, 6] xs.length (fun kq sv iv wr => ∃ (i : Nat) (A' : Option Addr) (m d : Nat) (P : List (Int × Int)), sv = .slice A' m d ∧ iv = .int .i64 (i : Nat) ∧ i + kq = xs.length ∧ m ≤ i ∧ Hd (P ++ runs (xs.drop i) = runs xs) ∧ Hd (wr.ownsRow 0 188 2 (.slice A' m d) m (cells P)) ∧ Hd (∀ x, (Value.slice A' m d).ownBlock = some x → wo.heap.size ≤ x) ∧ Hd (Fr wo wr []))
        case atStart => exact ⟨0, none, 0, 0, [], rfl, rfl, by omega, by omega, ⟨rfl⟩, ⟨own_nil _ _ _ _⟩, ⟨by intro x hx; cases hx⟩, ⟨Fr.refl _ _⟩⟩
        case round =>
          obtain ⟨ws, rfl⟩ : ∃ ws : World, ws = wr := ⟨_, rfl⟩
          obtain ⟨gx, rfl⟩ : ∃ gx : Nat, gx = gk := ⟨_, rfl⟩
          obtain ⟨i, A', m, d, P, rfl, rfl, hi, hmi, HP, HO, HB, HF⟩ := hrel
          by_cases h1 : i < xs.length
          · obtain ⟨a, o1, rfl, _, ha⟩ := (HS.out.frame HF.out (by simp)) (by simp [i64s]; omega)
            obtain ⟨x, hx⟩ : ∃ x, x = xs[i] := ⟨_, rfl⟩
            have ca := (ha i (by simp [i64s]; omega)).trans (by rw [i64s_get, List.getElem?_eq_getElem (by omega), ← hx])
            have HX := Hd.mk hx
            have HC := Hd.mk ha
            clear ha hx
            go_upto_block 4 with (fail)
            go_cut [8] from 40 to 57 (fun s8 wc => ∃ k : Nat, s8 = .int .i64 (k : Nat) ∧ wc = ws ∧ 1 ≤ k ∧ i + k ≤ xs.length ∧ Hd (k = lead x (xs.drop (i + 1)) + 1))
            case first =>
              go_wp2_with (fail)
              go_loopg [8] (xs.length - i) (fun kq kv wr => ∃ k : Nat, kv = .int .i64 (k : Nat) ∧ i + k + kq = xs.length + 1 ∧ 1 ≤ k ∧ i + k ≤ xs.length ∧ wr = ws ∧ Hd (∀ j, j + 1 < k → (xs.drop (i + 1))[j]? = some x))
              case atStart => exact ⟨1, rfl, by omega, by omega, by omega, rfl, ⟨fun j hj => by omega⟩⟩
              case round =>
                obtain ⟨k, rfl, hk, hk1, hk2, rfl, HE⟩ := hrel
                by_cases h2 : i + k < xs.length
                · obtain ⟨y, hy⟩ : ∃ y, y = xs[i + k] := ⟨_, rfl⟩
                  have cb := (HC.out (i + k) (by simp [i64s]; omega)).trans (by rw [i64s_get, List.getElem?_eq_getElem (by omega), ← hy])
                  have hdr : Hd ((xs.drop (i + 1))[k - 1]? = some y) := ⟨by rw [List.getElem?_drop, show i + 1 + (k - 1) = i + k from by omega, List.getElem?_eq_getElem h2, hy]⟩
                  clear hy
                  by_cases h3 : y = x
                  · subst h3
                    go_wp2
                    go_roundg (gk - 1)
                    case measure => omega
                    case rel => exact ⟨k + 1, by go_num, by omega, by omega, by omega, rfl, ⟨fun j hj => by
                      by_cases e : j + 1 = k
                      · rw [show j = k - 1 from by omega]; exact hdr.out
                      · exact HE.out j (by omega)⟩⟩
                  · have hbq : (y == x) = false := by simpa using h3
                    go_wp2
                    go_meet
                    refine ⟨k, rfl, rfl, hk1, hk2, ⟨?_⟩⟩
                    rw [lead_eq (k := k - 1) (by rw [List.length_drop]; omega) (fun j hj => HE.out j (by omega)) (fun _ e => by rw [hdr.out] at e; injection e with e; exact h3 e)]
                    omega
                · go_wp2
                  go_meet
                  refine ⟨k, rfl, rfl, hk1, hk2, ⟨?_⟩⟩
                  rw [lead_eq (k := k - 1) (by rw [List.length_drop]; omega) (fun j hj => HE.out j (by omega)) (fun h => by rw [List.length_drop] at h; omega)]
                  omega
            case rest =>
              obtain ⟨k, rfl, rfl, hk1, hk2, HK⟩ := hcut
              obtain ⟨R, hR⟩ : ∃ R, R = rowOf x k := ⟨_, rfl⟩
              obtain ⟨L, hL⟩ : ∃ L, L = Runs.rowLen x k := ⟨_, rfl⟩
              have HR := Hd.mk hR
              have HL := Hd.mk hL
              have hL1 : 1 ≤ L := by rw [hL]; exact rowLen_pos _ _
              have hLk : L ≤ k := by rw [hL]; exact rowLen_le _ hk1
              have hRL : R.length ≤ L := by rw [hR, hL]; exact row_len _ hk1
              have hM : Hd (∀ t, 0 ≤ reach R t ∧ reach R t ≤ (L : Int)) := ⟨by
                intro t
                have := reach_mono (row_pos (v := x) hk1) t
                rw [rowLen_sum, ← hL, ← hR] at this
                exact this⟩
              have hfin : Hd (reach R R.length = (L : Int)) := ⟨by unfold reach; rw [List.take_length, hR, rowLen_sum, hL]⟩
              clear hR hL ca
              go_wp2_with (fail)
              refine (row_any wc x k hk1 (by omega)).mono ?_
              rintro e w2 ⟨B, n2, c2, rfl, g1, g2, g3⟩
              rw [← HR.out] at g1
              have hn2 : n2 = R.length := by have := g1.1; rw [cells_len] at this; omega
              subst hn2
              have HO2 := Hd.mk (own_frame HO.out g3 (by simp))
              have HF2 := Hd.mk (HF.out.trans g3 (by simp))
              have HRB := Hd.mk g1
              have HRN := Hd.mk g2
              have hold : Hd (∀ y, (Value.slice A' m d).ownBlock = some y → y < wc.heap.size) := ⟨fun y hy => own_lt HO.out hy⟩
              have hws := HF.out.size
              have hw2 := g3.size
              clear g1 g2 g3
              have hR0 : Hd (0 < R.length) := ⟨by rw [HR.out]; exact List.length_pos_iff.2 (row_ne _ _)⟩
              go_wp2
              go_loopg [5, 6, 10] R.length (fun kq sv iv tv wr => ∃ (t i2 m2 : Nat) (A2 : Option Addr) (d2 : Nat), sv = .slice A2 m2 d2 ∧ iv = .int .i64 (i2 : Nat) ∧ tv = .int .i64 (t : Nat) ∧ t + kq = R.length ∧ m2 = m + t ∧ i2 ≤ i + L ∧ Hd ((i2 : Int) = i + reach R t) ∧
                Hd (wr.ownsRow 0 188 2 (.slice A2 m2 d2) m2 (cells (P ++ R.take t))) ∧ Hd (∀ y, (Value.slice A2 m2 d2).ownBlock = some y → (Value.slice A' m d).ownBlock = some y ∨ w2.heap.size ≤ y) ∧ Hd (Fr w2 wr (Value.slice A' m d).ownBlock.toList))
              case atStart => exact ⟨0, i, m, A', d, rfl, rfl, rfl, by omega, by omega, by omega, ⟨by simp [reach]⟩, ⟨by simpa using HO2.out⟩, ⟨fun y hy => .inl hy⟩, ⟨Fr.refl _ _⟩⟩
              case round =>
                obtain ⟨t, i2, m2, A2, d2, rfl, rfl, rfl, ht, hm2, hi2, HI, HO3, HB3, HF3⟩ := hrel
                by_cases h4 : t < R.length
                · have hrow : Sl wr B (cells R) (Value.slice B R.length c2).ownBlock := (sl_of_own2 HRB.out hR0.out).frame HF3.out (fun y hy hm => by
                    have := HRN.out y hy
                    have := hold.out y (by simpa using hm)
                    omega)
                  obtain ⟨b, off, rfl, hqb, hcl⟩ := Sl.row (enc := enc) (sz := 2) (fun _ => rfl) hrow h4 (by decide)
                  obtain ⟨r, hr⟩ : ∃ r, r = R[t] := ⟨_, rfl⟩
                  rw [← hr] at hcl
                  have c0 := hcl 0 (by decide)
                  have c1 := hcl 1 (by decide)
                  obtain ⟨ra, rb⟩ := r
                  simp only [enc, List.getElem?_cons_zero, List.getElem?_cons_succ, Nat.add_zero] at c0 c1
                  have hsum := reach_succ h4
                  have hm1 := hM.out (t + 1)
                  have hm0 := hM.out t
                  rw [← hr] at hsum
                  simp only at hsum
                  have hi3 := HI.out
                  have hrb0 : 0 ≤ rb := by have := row_pos (v := x) hk1 (ra, rb) (by rw [← HR.out, hr]; exact List.getElem_mem h4); exact this
                  obtain ⟨rb, rfl⟩ := Int.eq_ofNat_of_zero_le hrb0
                  have hb3 : i2 + rb ≤ i + L := by omega
                  have Hsum := Hd.mk hsum
                  have Hr := Hd.mk hr
                  have hbl : b < wr.heap.size := World.block_lt_of_cell? wr _ c0
                  have hbn : Hd (some b ≠ (Value.slice A2 m2 d2).ownBlock) := ⟨fun e => by
                    have h5 := HRN.out b hqb
                    have h6 := own_lt HRB.out hqb
                    rcases HB3.out b e.symm with h | h
                    · have := hold.out b h; omega
                    · omega⟩
                  have HC1 := Hd.mk c1
                  clear hrow hcl hr hsum hm1 hm0 hi3 hrb0 hqb
                  go_wp2_with (at_builtin; refine wpList_append_sl rfl (.tmp 67) (.tmp 72) 184 rfl 188 i0 (.agg #[.int .i64 0, .int .i64 0]) 2 16 Tryz.underlying184 hi0 hz0 hz1 hz2 rfl (by decide) (.slice A2 m2 d2) m2 _ rfl (by exact HO3.out.alloc _) (some ⟨wr.heap.size, 0, none⟩) 1 1 [.int .i64 ra, .int .i64 (rb : Nat)] (some wr.heap.size) rfl rfl (by exact sl_of_blk (blk_new _ _)) (by intro h; cases h) (by intro u hu; simp at hu; rcases hu with rfl | rfl <;> rfl) (by unfold maxLen; omega) (by omega) ?_; intro A3 d3 w3 hown' hgrow haft; have O3 := Hd.mk hown'; have G3 := Hd.mk hgrow; have F3 := Hd.mk haft; have k1 := (hgrow.cell_far ⟨b, off + t * 2 + 1, none⟩ (by simp; omega) hbn.out).trans ((alloc_cell wr _ hbl).trans HC1.out); clear hown' hgrow haft)
                  go_roundg (gk - 1)
                  case measure => omega
                  case rel =>
                    refine ⟨t + 1, i2 + rb, m2 + 1, A3, d3, by subst hm2; rfl, by go_num, by go_num, by omega, by omega, hb3, ⟨?_⟩, ⟨?_⟩, ⟨fun y hy => ?_⟩, ⟨(HF3.out.alloc _).grown G3.out (fun y hy => ?_)⟩⟩
                    · have := HI.out; have := Hsum.out; omega
                    · have := O3.out
                      rw [List.take_succ_eq_append_getElem h4, ← Hr.out, ← List.append_assoc, cells_app (P ++ R.take t)]
                      exact this
                    · rcases F3.out with h | ⟨z, h, hz⟩
                      · rw [← h] at HB3; exact HB3.out y hy
                      · rw [h] at hy; cases hy
                        have := HF3.out.size
                        simp at hz
                        exact .inr (by omega)
                    · rcases HB3.out y hy with h | h
                      · exact .inl (by simp [h])
                      · exact .inr h
                · obtain rfl : t = R.length := by omega
                  have hi4 : i2 = i + L := by have := HI.out; have := hfin.out; omega
                  subst hi4
                  go_wp2
                  go_roundg (gx - L)
                  case measure => omega
                  case rel =>
                    refine ⟨i + L, A2, m2, d2, P ++ R, rfl, by go_num, by omega, by omega, ⟨?_⟩, ⟨?_⟩, ⟨fun y hy => ?_⟩, ⟨HF2.out.trans HF3.out (fun y hy hm => ?_)⟩⟩
                    · rw [← HP.out, List.append_assoc, List.drop_eq_getElem_cons h1, ← HX.out, runs_cons, ← HK.out, ← HR.out, ← HL.out]
                      congr 2
                      rw [HX.out, ← List.drop_eq_getElem_cons h1, List.drop_drop]
                    · have := HO3.out
                      rw [List.take_length] at this
                      exact this
                    · rcases HB3.out y hy with h | h
                      · exact HB.out y h
                      · omega
                    · have := HB.out y (by simpa using hm); omega
          · obtain rfl : i = xs.length := by omega
            have hp := HP.out
            rw [List.drop_length, runs_nil, List.append_nil] at hp
            have hrs2 : Hd (rs = P) := ⟨by rw [HRS.out, hc.out, hp]; rfl⟩
            have hec2 : Hd (ec = 0) := ⟨by rw [HEC.out, hc.out]; rfl⟩
            go_wp2
            go_ret2
            rw [hrs2.out, hec2.out]
            exact ⟨A', m, d, rfl, HO.out, HB.out, HF.out⟩
end Go.Proofs.YtkdgfioigkijgaaGreat.Head
