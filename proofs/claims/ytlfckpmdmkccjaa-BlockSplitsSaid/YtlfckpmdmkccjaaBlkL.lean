/- Chapter 09: tokens and the end by codes, laid down. Conditions: the tokens are right, at most 65536; the writer has fewer than 2^49 bits. -/
import Derived.Test.YtlfckpmdmkccjaaBlkK
set_option linter.unusedVariables false
set_option linter.unusedSimpArgs false
set_option maxRecDepth 100000
namespace Go.Proofs.Ytlfckpmdmkccjaa.Blk
open Go.RowKit Go.Proofs.Ytlfckpmdmkccjaa.Lib Go.Proofs.Ytlfckpmdmkccjaa.Ints Go.Proofs.Ytlfckpmdmkccjaa.Lz Go.Proofs.Ytlfckpmdmkccjaa.Num Go.Proofs.Ytlfckpmdmkccjaa.Bits Go.Proofs.Ytlfckpmdmkccjaa.Code
set_option maxHeartbeats 8000000 in
theorem lay_any (w : World) (X Y : Option Addr) (nx cx ny cy : Nat) (lit dist : List Int) (px py : Option Nat) (hX : SlArg w X nx cx (i64s lit) px) (hY : SlArg w Y ny cy (i64s dist) py) (hcx : check lit = 0) (hcy : check dist = 0)
    (A : Option Addr) (n c : Nat) (l : List Tok) (p : Option Nat) (hn : l.length = n) (hS : Sl w A (tcells l) p) (hb : n ≤ 65536) (hr : ∀ t ∈ l, right t = true) (hl : LitB l)
    (gw N m : Nat) (q : Option Nat) (hT : Tl w gw 53 N m q) (hp : ∀ k, p = some k → k ∉ gw :: q.toList) (hm : m ≤ 562949953421312) (er : Int) (her : er = if bitsOf lit 256 = 0 then 53 else 0) :
    Calls Try.prog 66 #[.pointer (some ⟨gw, 0, none⟩), .slice X nx cx, .slice Y ny cy, .slice A n c] w fun e w' => e = .returned (.int .i64 er) ∧ ∃ q', Pw w w' gw q q' N m (bodyP lit dist l) := by
  subst hn
  have HS := Hd.mk hS
  have HX := Hd.mk hX
  have HY := Hd.mk hY
  have HC := Hd.mk (And.intro hcx hcy)
  have HR := Hd.mk (And.intro hr hl)
  have HP := Hd.mk hp
  have T0 := Hd.mk hT
  have HER := Hd.mk her
  clear hS hX hY hcx hcy hr hl hp hT her
  go_enter Try.func66, Try.ntmps66
  go_wp2_with (fail)
  refine (newenc_any w X nx cx lit px HX.out 0 HC.out.1.symm).mono ?_
  rintro e w1 ⟨p1, rfl, hf1, _, h3⟩
  obtain ⟨gx, ga, da, B, db, L, rfl, hE, _⟩ := h3 rfl
  have EX1 : Hd (EnP w1 gx lit) := ⟨⟨ga, da, B, db, L, hE⟩⟩
  have F1 := Hd.mk hf1
  clear hf1 h3 hE HX
  go_wp2_with (fail)
  refine (newenc_any w1 Y ny cy dist py (HY.out.frame F1.out (by simp)) 0 HC.out.2.symm).mono ?_
  rintro e w2 ⟨p2, rfl, hf2, _, h3⟩
  obtain ⟨gy, ga', da', B', db', L', rfl, hE, _⟩ := h3 rfl
  have EY2 : Hd (EnP w2 gy dist) := ⟨⟨ga', da', B', db', L', hE⟩⟩
  have EX2 := Hd.mk (EX1.out.call hf2)
  have F2 := Hd.mk (F1.out.trans hf2 (by simp))
  have W2 : Hd (∃ qj, Pw w w2 gw q qj N m (toksP lit dist (l.take 0))) := ⟨⟨q, (Pw.start T0.out).call F2.out⟩⟩
  clear hf2 h3 hE HY F1 EX1 F2
  go_wp2
  go_loopg [35] l.length (fun kq jv wr => ∃ j : Nat, jv = .int .i64 (j : Nat) ∧ j + kq = l.length ∧ Hd (EnP wr gx lit) ∧ Hd (EnP wr gy dist) ∧ Hd (∃ qj, Pw w wr gw q qj N m (toksP lit dist (l.take j))))
  case atStart => exact ⟨0, rfl, by omega, EX2, EY2, W2⟩
  case round =>
    obtain ⟨j, rfl, hj, EX, EY, HW⟩ := hrel
    obtain ⟨⟨qj, hPj⟩⟩ := HW
    have PJ := Hd.mk hPj
    clear hPj
    have hmj : Hd (totOf (toksP lit dist (l.take j)) ≤ 48 * 65536) := ⟨by
      have := toksP_le HC.out.1 HC.out.2 (l.take j) (fun u hu => HR.out.1 u (List.mem_of_mem_take hu)) (fun u hu => HR.out.2 u (List.mem_of_mem_take hu))
      rw [List.length_take] at this
      omega⟩
    by_cases h1 : j < l.length
    · obtain ⟨a, o1, rfl, _, hcc⟩ := Sl.row (enc := tcell) (sz := 3) (fun _ => rfl) (HS.out.frame PJ.out.fr HP.out) h1 (by decide)
      obtain ⟨t, ht⟩ : ∃ t, t = l[j] := ⟨_, rfl⟩
      rw [← ht] at hcc
      have c0 := hcc 0 (by decide)
      have c1 := hcc 1 (by decide)
      have c2 := hcc 2 (by decide)
      simp only [tcell, List.getElem?_cons_zero, List.getElem?_cons_succ, Nat.add_zero] at c0 c1 c2
      have htm : t ∈ l := by rw [ht]; exact List.getElem_mem h1
      have hrt := HR.out.1 t htm
      have hlt := HR.out.2 t htm
      have HTK : Hd (toksP lit dist (l.take (j + 1)) = toksP lit dist (l.take j) ++ tokP lit dist t) := ⟨by rw [toksP_take h1, ht]⟩
      have HTD : Hd (tokP lit dist t = [Code.part lit (sgA t).1, ((sgA t).2.1.toNat, (sgA t).2.2.toNat)] ++ if t.len = 0 then [] else [Code.part dist (sgB t).1, ((sgB t).2.1.toNat, (sgB t).2.2.toNat)]) := ⟨rfl⟩
      have sa := (sgA_fit hrt hlt).1
      have sb := sgB_fit hrt
      clear hcc ht htm
      generalize toksP lit dist (l.take j) = PR at *
      go_wp2_with (fail)
      refine (signs_any _ t hlt).mono ?_
      rintro e w3 ⟨rfl, h2⟩
      have f3 := ((Fr.refl wr []).alloc (.cells #[.int .u8 t.lit, .int .i64 t.len, .int .i64 t.dist] 58)).trans h2 (by simp)
      have PJ3 := Hd.mk (PJ.out.call f3)
      have EX3 := Hd.mk (EX.out.call f3)
      have EY3 := Hd.mk (EY.out.call f3)
      clear h2 f3 EX EY PJ
      obtain ⟨⟨sx, vx, bxx⟩, hsa⟩ : ∃ x, x = sgA t := ⟨_, rfl⟩
      obtain ⟨⟨sy, vy, byy⟩, hsb2⟩ : ∃ x, x = sgB t := ⟨_, rfl⟩
      rw [← hsa] at sa HTD ⊢
      rw [← hsb2] at sb HTD ⊢
      obtain ⟨_, ⟨a3, a4⟩, a5, a6⟩ := sa
      obtain ⟨_, ⟨b3, b4⟩, b5, b6⟩ := sb
      clear hsa hsb2
      simp only at a3 a4 a5 a6 b3 b4 b5 b6 HTD
      obtain ⟨vx, rfl⟩ := Int.eq_ofNat_of_zero_le a5
      obtain ⟨vy, rfl⟩ := Int.eq_ofNat_of_zero_le b5
      obtain ⟨bxx, rfl⟩ := Int.eq_ofNat_of_zero_le a3
      obtain ⟨byy, rfl⟩ := Int.eq_ofNat_of_zero_le b3
      simp only [Int.toNat_natCast] at a6 b6 HTD
      have a7 : vx < 2 ^ bxx := by exact_mod_cast a6
      have b7 : vy < 2 ^ byy := by exact_mod_cast b6
      have hvx : vx < 8192 := Nat.lt_of_lt_of_le a7 (Nat.pow_le_pow_right (by omega) (show bxx ≤ 13 by omega))
      have hvy : vy < 8192 := Nat.lt_of_lt_of_le b7 (Nat.pow_le_pow_right (by omega) (show byy ≤ 13 by omega))
      have A7 := Hd.mk a7
      have B7 := Hd.mk b7
      clear a6 b6 a7 b7
      simp only [sgV]
      obtain ⟨mt, hmt⟩ : ∃ m, m = decide (t.len ≠ 0) := ⟨_, rfl⟩
      rw [← hmt]
      have HMT := Hd.mk hmt
      clear hmt
      go_upto_region 11 with (fail)
      have B1 : Hd (((w3.alloc (.cells #[.int .i64 sx, .int .i64 (vx : Nat), .int .i64 (bxx : Nat)] 69)).alloc (.cells #[.int .i64 sy, .int .i64 (vy : Nat), .int .i64 (byy : Nat)] 69)).heap[w3.heap.size]? = some (.cells #[.int .i64 sx, .int .i64 (vx : Nat), .int .i64 (bxx : Nat)] 69 (0, 0))) := ⟨blk_alloc (blk_new w3 _) _⟩
      have B2 : Hd (((w3.alloc (.cells #[.int .i64 sx, .int .i64 (vx : Nat), .int .i64 (bxx : Nat)] 69)).alloc (.cells #[.int .i64 sy, .int .i64 (vy : Nat), .int .i64 (byy : Nat)] 69)).heap[w3.heap.size + 1]? = some (.cells #[.int .i64 sy, .int .i64 (vy : Nat), .int .i64 (byy : Nat)] 69 (0, 0))) := ⟨by simpa using blk_new (w3.alloc _) _⟩
      have f4 := ((Fr.refl w3 []).alloc (.cells #[.int .i64 sx, .int .i64 (vx : Nat), .int .i64 (bxx : Nat)] 69)).alloc (.cells #[.int .i64 sy, .int .i64 (vy : Nat), .int .i64 (byy : Nat)] 69)
      have PJ4 := Hd.mk (PJ3.out.call f4)
      have EX4 := Hd.mk (EX3.out.call f4)
      have EY4 := Hd.mk (EY3.out.call f4)
      clear f4 EX3 EY3 PJ3
      generalize (w3.alloc (.cells #[.int .i64 sx, .int .i64 (vx : Nat), .int .i64 (bxx : Nat)] 69)).alloc (.cells #[.int .i64 sy, .int .i64 (vy : Nat), .int .i64 (byy : Nat)] 69) = w4 at *
      generalize w3.heap.size = g at *
      have d0 := blk_cell B1.out 0
      simp only [List.getElem?_toArray, List.getElem?_cons_zero, List.getElem?_cons_succ] at d0
      go_wp2_with (fail)
      obtain ⟨er1, he1⟩ : ∃ e1 : Int, e1 = if bitsOf lit sx = 0 then 53 else 0 := ⟨_, rfl⟩
      refine (eput sx EX4.out PJ4.out.tl (by have := hmj.out; omega) er1 he1).mono ?_
      clear he1
      rintro e w5 ⟨rfl, hpl⟩
      have hpl' := hpl
      obtain ⟨q5, _, _, f5⟩ := hpl'
      have EX5 := Hd.mk (EX4.out.keep PJ4.out.tl f5)
      have EY5 := Hd.mk (EY4.out.keep PJ4.out.tl f5)
      have B15 := Hd.mk (tl_keep PJ4.out.tl B1.out (by decide) (by decide) f5)
      have B25 := Hd.mk (tl_keep PJ4.out.tl B2.out (by decide) (by decide) f5)
      obtain ⟨q5', h5⟩ := PJ4.out.put hpl
      have PJ5 := Hd.mk h5
      clear h5 hpl f5 d0 B1 B2 EX4 EY4 PJ4
      have d1 := blk_cell B15.out 1
      have d2 := blk_cell B15.out 2
      simp only [List.getElem?_toArray, List.getElem?_cons_zero, List.getElem?_cons_succ] at d1 d2
      have ht5 : Hd (totOf (PR ++ [Code.part lit sx]) ≤ 48 * 65536 + 15) := ⟨by have := hmj.out; have := part_le HC.out.1 sx; rw [totOf_snoc2]; omega⟩
      go_wp2_with (fail)
      refine (wput (vx : Int) (bxx : Int) vx rfl (by simpa using A7.out) (by omega) (by omega) PJ5.out.tl (by rw [Int.toNat_natCast]; have := ht5.out; omega)).mono ?_
      rintro e w6 ⟨rfl, hpl⟩
      rw [Int.toNat_natCast] at hpl
      have hpl' := hpl
      obtain ⟨q6, _, _, f6⟩ := hpl'
      have EX6 := Hd.mk (EX5.out.keep PJ5.out.tl f6)
      have EY6 := Hd.mk (EY5.out.keep PJ5.out.tl f6)
      have B26 := Hd.mk (tl_keep PJ5.out.tl B25.out (by decide) (by decide) f6)
      obtain ⟨q6', h6⟩ := PJ5.out.put hpl
      have PJ6 := Hd.mk h6
      clear h6 hpl f6 d1 d2 B15 B25 EX5 EY5 PJ5
      cases mt with
      | false =>
        have hlen0 : t.len = 0 := by have := HMT.out; simpa using this
        rw [if_pos hlen0, List.append_nil] at HTD
        go_wp2
        go_roundg (gk - 1)
        case measure => omega
        case rel => exact ⟨j + 1, by go_num, by omega, EX6, EY6, ⟨q6', by rw [HTK.out, HTD.out]; have := PJ6.out; rwa [List.append_assoc] at this⟩⟩
      | true =>
        have hlen0 : ¬ t.len = 0 := by have := HMT.out; simpa using this
        rw [if_neg hlen0] at HTD
        have d0 := blk_cell B26.out 0
        simp only [List.getElem?_toArray, List.getElem?_cons_zero, List.getElem?_cons_succ] at d0
        have ht6 : Hd (totOf (PR ++ [Code.part lit sx] ++ [(vx, bxx)]) ≤ 48 * 65536 + 15 + 5) := ⟨by have := ht5.out; rw [totOf_snoc]; omega⟩
        go_wp2_with (fail)
        obtain ⟨er2, he2⟩ : ∃ e1 : Int, e1 = if bitsOf dist sy = 0 then 53 else 0 := ⟨_, rfl⟩
        refine (eput sy EY6.out PJ6.out.tl (by have := ht6.out; omega) er2 he2).mono ?_
        clear he2
        rintro e w7 ⟨rfl, hpl⟩
        have hpl' := hpl
        obtain ⟨q7, _, _, f7⟩ := hpl'
        have EX7 := Hd.mk (EX6.out.keep PJ6.out.tl f7)
        have EY7 := Hd.mk (EY6.out.keep PJ6.out.tl f7)
        have B27 := Hd.mk (tl_keep PJ6.out.tl B26.out (by decide) (by decide) f7)
        obtain ⟨q7', h7⟩ := PJ6.out.put hpl
        have PJ7 := Hd.mk h7
        clear h7 hpl f7 d0 B26 EX6 EY6 PJ6
        have d1 := blk_cell B27.out 1
        have d2 := blk_cell B27.out 2
        simp only [List.getElem?_toArray, List.getElem?_cons_zero, List.getElem?_cons_succ] at d1 d2
        have ht7 : Hd (totOf (PR ++ [Code.part lit sx] ++ [(vx, bxx)] ++ [Code.part dist sy]) ≤ 48 * 65536 + 15 + 5 + 15) := ⟨by have := ht6.out; have := part_le HC.out.2 sy; rw [totOf_snoc2]; omega⟩
        go_wp2_with (fail)
        refine (wput (vy : Int) (byy : Int) vy rfl (by simpa using B7.out) (by omega) (by omega) PJ7.out.tl (by rw [Int.toNat_natCast]; have := ht7.out; omega)).mono ?_
        rintro e w8 ⟨rfl, hpl⟩
        rw [Int.toNat_natCast] at hpl
        have hpl' := hpl
        obtain ⟨q8, _, _, f8⟩ := hpl'
        have EX8 := Hd.mk (EX7.out.keep PJ7.out.tl f8)
        have EY8 := Hd.mk (EY7.out.keep PJ7.out.tl f8)
        obtain ⟨q8', h8⟩ := PJ7.out.put hpl
        have PJ8 := Hd.mk h8
        clear h8 hpl f8 d1 d2 B27 EX7 EY7 PJ7
        go_wp2
        go_roundg (gk - 1)
        case measure => omega
        case rel => exact ⟨j + 1, by go_num, by omega, EX8, EY8, ⟨q8', by rw [HTK.out, HTD.out]; have := PJ8.out; simpa [List.append_assoc] using this⟩⟩
    · obtain rfl : j = l.length := by omega
      rw [List.take_length] at PJ hmj
      go_wp2_with (fail)
      refine (eput 256 EX.out PJ.out.tl (by have := hmj.out; omega) er HER.out).mono ?_
      rintro e w5 ⟨rfl, hpl⟩
      obtain ⟨q5', h5⟩ := PJ.out.put hpl
      have PJ5 := Hd.mk h5
      clear h5 hpl
      go_wp2
      go_ret
      exact ⟨rfl, q5', PJ5.out⟩
end Go.Proofs.Ytlfckpmdmkccjaa.Blk
