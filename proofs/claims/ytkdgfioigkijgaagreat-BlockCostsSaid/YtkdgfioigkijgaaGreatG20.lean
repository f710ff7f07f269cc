/- Texts of this claim, one behind the other: BlkRc, Face, BlkLaw, FaceS, BlkCosts. -/
import Derived.Test.YtkdgfioigkijgaaGreatG01
import Derived.Test.YtkdgfioigkijgaaGreatG02
import Derived.Test.YtkdgfioigkijgaaGreatG03
import Derived.Test.YtkdgfioigkijgaaGreatG04
import Derived.Test.YtkdgfioigkijgaaGreatG05
import Derived.Test.YtkdgfioigkijgaaGreatG06
import Derived.Test.YtkdgfioigkijgaaGreatG07
import Derived.Test.YtkdgfioigkijgaaGreatG08
import Derived.Test.YtkdgfioigkijgaaGreatG09
import Derived.Test.YtkdgfioigkijgaaGreatG10
import Derived.Test.YtkdgfioigkijgaaGreatG11
import Derived.Test.YtkdgfioigkijgaaGreatG12
import Derived.Test.YtkdgfioigkijgaaGreatG13
import Derived.Test.YtkdgfioigkijgaaGreatG14
import Derived.Test.YtkdgfioigkijgaaGreatG15
import Derived.Test.YtkdgfioigkijgaaGreatG16
import Derived.Test.YtkdgfioigkijgaaGreatG17
import Derived.Test.YtkdgfioigkijgaaGreatG18
import Derived.Test.YtkdgfioigkijgaaGreatG19
import Derived.Deep.RegionHeld3
/- Chapter 09: the document's Cost and Pick walked. Conditions: at most 6000000000000 tokens. -/
set_option linter.unusedVariables false
set_option linter.unusedSimpArgs false
set_option maxRecDepth 100000
namespace Go.Proofs.YtkdgfioigkijgaaGreat.Blk
open Go.RowKit Go.Proofs.YtkdgfioigkijgaaGreat.Lib Go.Proofs.YtkdgfioigkijgaaGreat.Ints Go.Proofs.YtkdgfioigkijgaaGreat.Lz Go.Proofs.YtkdgfioigkijgaaGreat.Num Go.Proofs.YtkdgfioigkijgaaGreat.Bits
theorem made_bools {n : Nat} (h : n ≤ 7) : (madeCells (Value.bool false).cells (n * 1)).toList = bools 0 n := by
  simp only [madeCells, bools, Value.cells, Nat.mul_one, List.size_toArray, List.length_cons, List.length_nil]
  simp
  intro x _
  simp [Nat.mod_one]
theorem made_u8 (n : Nat) : (madeCells (Value.int .u8 0).cells (n * 1)).toList = u8s (List.replicate n 0) := by
  simp [madeCells, u8s, Value.cells]
  apply List.eq_replicate_iff.2
  refine ⟨by simp, fun b hb => ?_⟩
  simp only [List.mem_map] at hb
  obtain ⟨a, _, rfl⟩ := hb
  simp [Nat.mod_one]
theorem ret_two {a b c : Int} (h : a = b) : Ending.returned (.tuple #[.int .i64 a, .int .i64 c]) = .returned (.tuple #[.int .i64 b, .int .i64 c]) := by rw [h]
set_option maxHeartbeats 8000000 in
theorem rcost0 (w : World) (bh : Int) (h0 : 0 ≤ bh) (h7 : bh ≤ 7) (A : Option Addr) (n c : Nat) (l : List Tok) (p : Option Nat) (hn : l.length = n) (hS : Sl w A (tcells l) p) (hpw : ∀ k, p = some k → k < w.heap.size) (hb : n ≤ 6000000000000) (hl : LitB l) (m er : Int) (hm : if mayB l = 0 then m = (costK 0 bh l).1 ∧ er = (costK 0 bh l).2 else m = 0 ∧ er = mayB l) :
    Calls Tryz.prog 27 #[.int .i64 0, .int .i64 bh, .slice A n c] w fun r w' => r = .returned (.tuple #[.int .i64 m, .int .i64 er]) ∧ Fr w w' [] := by
  obtain ⟨i0, hi0, hz0, hz1, hz2⟩ := info_parts Bits.infoBool
  obtain ⟨j0, hj0, jz0, jz1, jz2⟩ := info_parts Bits.infoU8
  have HS := Hd.mk hS
  have HPW := Hd.mk hpw
  have HL := Hd.mk hl
  obtain ⟨e, he⟩ : ∃ e, e = mayB l := ⟨_, rfl⟩
  rw [← he] at hm
  have HE := Hd.mk he
  have HM := Hd.mk hm
  obtain ⟨bn, rfl⟩ := Int.eq_ofNat_of_zero_le h0
  have hbn : bn ≤ 7 := by omega
  clear hS hl hm he hpw
  go_enter Tryz.func27, Tryz.ntmps27
  go_wp2_with (refine wpList_make_full _ rfl _ _ 28 rfl 0 4 i0 (.bool false) 1 Tryz.underlying28 hi0 hz0 hz1 .i64 .i64 _ _ bn rfl rfl (by omega) (by omega) (by rw [hz2]; omega) (by unfold maxLen; omega) (Nat.zero_le _) ?_; intro w1 hown1 hgrow1; rw [made_bools hbn] at hown1; have O1 := Hd.mk hown1; have G1 := Hd.mk hgrow1; clear hown1 hgrow1)
  have A2 := (Fr.refl w1 []).alloc (.cells #[.slice (some ⟨w.heap.size, 0, none⟩) bn bn] 30)
  have T2 : Hd (RW (w1.alloc (.cells #[.slice (some ⟨w.heap.size, 0, none⟩) bn bn] 30)) w1.heap.size 0 bn (some w.heap.size)) := ⟨⟨_, _, blk_new w1 _, own_frame O1.out A2 (by simp), rfl, Nat.two_pow_pos _⟩⟩
  have F2 : Hd (Fr w (w1.alloc (.cells #[.slice (some ⟨w.heap.size, 0, none⟩) bn bn] 30)) []) := ⟨((Fr.refl w []).grown G1.out (by simp)).trans A2 (by simp)⟩
  have NG : Hd (w.heap.size ≤ w1.heap.size) := ⟨G1.out.size⟩
  clear A2 O1 G1
  generalize w1.alloc (.cells #[.slice (some ⟨w.heap.size, 0, none⟩) bn bn] 30) = w2 at *
  generalize w1.heap.size = gw at *
  refine (rmay_any w2 A n c l p hn (HS.out.frame F2.out (by simp)) hb e HE.out).mono ?_
  rintro r w3 ⟨rfl, h3⟩
  have T3 := Hd.mk (T2.out.frame h3 (by simp) (by simp))
  have F3 := Hd.mk (F2.out.trans h3 (by simp))
  clear h3 T2 F2
  by_cases h : e = 0
  · have hmm : Hd (m = (costK 0 (bn : Nat) l).1 ∧ er = (costK 0 (bn : Nat) l).2) := ⟨by have := HM.out; rw [if_pos h] at this; exact this⟩
    subst h
    have hz := mayB_zero HE.out.symm
    have HZ := Hd.mk hz.2
    have hz1 := hz.1
    have hsl := Lz.sizeOf_le l
    obtain ⟨s, hs⟩ : ∃ s, s = Lz.sizeOf l := ⟨_, rfl⟩
    rw [← hs] at hsl
    have HSZ := Hd.mk hs
    clear hz hs HM
    go_wp2_with (fail)
    refine (rsize_any w3 A n c l p hn (HS.out.frame F3.out (by simp)) (by omega)).mono ?_
    rintro r w4 ⟨rfl, h4⟩
    rw [← HSZ.out]
    have T4 := Hd.mk (T3.out.frame h4 (by simp) (by simp))
    have F4 := Hd.mk (F3.out.trans h4 (by simp))
    clear h4 T3 F3
    by_cases hbig : 65535 < s
    · have hc : costK 0 (bn : Nat) l = (0, 90) := by unfold costK; rw [if_pos rfl, if_pos (by rw [← HSZ.out]; exact hbig)]
      obtain ⟨e1, e2⟩ := hmm.out
      rw [hc] at e1 e2
      simp only at e1 e2
      subst e1 e2
      have hbI : (65535 : Int) < (s : Nat) := by omega
      clear hc hmm
      go_wp2
      go_ret2
      exact ⟨rfl, F4.out⟩
    · have hbI : ¬ (65535 : Int) < (s : Nat) := by omega
      have HC0 : Hd ((costK 0 (bn : Nat) l).2 = 0) := ⟨by unfold costK; rw [if_pos rfl, if_neg (by rw [← HSZ.out]; exact hbig)]⟩
      have HW0 : Hd ((0 : Int) = wrErr 0 (List.replicate s (0 : Int)).length l) := ⟨by unfold wrErr; rw [if_neg (by omega), if_neg (by rw [← HE.out]; simp), if_neg (fun h => hbig (by rw [HSZ.out]; exact h.2)), if_neg (by rw [List.length_replicate, HSZ.out]; simp)]⟩
      go_wp2_with (fail)
      refine (rsize_any w4 A n c l p hn (HS.out.frame F4.out (by simp)) (by omega)).mono ?_
      rintro r w5 ⟨rfl, h5⟩
      rw [← HSZ.out]
      have T5 := Hd.mk (T4.out.frame h5 (by simp) (by simp))
      have F5 := Hd.mk (F4.out.trans h5 (by simp))
      clear h5 T4 F4
      go_wp2_with (refine wpList_make_full _ rfl _ _ 23 rfl 0 5 j0 (.int .u8 0) 1 Tryz.underlying23 hj0 jz0 jz1 .i64 .i64 _ _ s rfl rfl (by omega) (by omega) (by rw [jz2]; omega) (by unfold maxLen; omega) (Nat.zero_le _) ?_; intro w6 hown6 hgrow6; rw [made_u8] at hown6; have O6 := Hd.mk hown6; have G6 := Hd.mk hgrow6; clear hown6 hgrow6)
      have f6 : Fr w5 w6 [] := (Fr.refl w5 []).grown G6.out (by simp)
      have T6 := Hd.mk (T5.out.frame f6 (by simp) (by simp))
      have F6 := Hd.mk (F5.out.trans f6 (by simp))
      have hgd : gw < w5.heap.size ∧ w.heap.size < w5.heap.size := ⟨T5.out.lt.1, T5.out.lt.2 _ rfl⟩
      have HGD := Hd.mk hgd
      clear f6 T5 F5 G6 hgd
      have hcall := rbwrite0 w6 false (some ⟨w5.heap.size, 0, none⟩) s (List.replicate s 0) (some w5.heap.size) (sl_of_own O6.out) (fun x hx => by have := List.eq_of_mem_replicate hx; omega) (by rw [List.length_replicate]; omega) A n c l p hn (HS.out.frame F6.out (by simp)) (by omega) HL.out gw 0 bn (some w.heap.size) T6.out (fun k hk => ⟨fun hm => by
        have h1 := HPW.out k hk
        have h2 := NG.out
        simp at hm
        omega, Nat.lt_of_lt_of_le (HPW.out k hk) F6.out.size⟩) (fun k hk => ⟨fun hm => by
        cases hk
        have h2 := HGD.out
        simp at hm
        omega, by cases hk; exact own_lt O6.out rfl⟩) (by omega) 0 HW0.out
      rw [List.length_replicate] at hcall
      refine hcall.mono ?_
      rintro r w7 ⟨rfl, hp7⟩
      obtain ⟨q7, h7⟩ := hp7.1 rfl
      obtain ⟨T, hT⟩ : ∃ T, T = totOf (blockP 0 bn false (List.replicate s 0) l) := ⟨_, rfl⟩
      have hbits := blockP_bits (k := 0) (m := bn) (b := false) (data := List.replicate s 0) (by decide) HE.out.symm HL.out (by rw [List.length_replicate, HSZ.out]) (by rw [Nat.mod_eq_of_lt (by omega)]; exact HC0.out)
      rw [Nat.mod_eq_of_lt (show bn < 8 by omega), ← hT] at hbits
      obtain ⟨e1, e2⟩ := hmm.out
      rw [HC0.out] at e2
      rw [← hbits] at e1
      subst e1 e2
      obtain ⟨Ax, cx, hxb, _⟩ := h7.rw_
      rw [← hT] at hxb
      have x0 := blk_cell hxb 0
      simp only [List.getElem?_toArray, List.getElem?_cons_zero] at x0
      have FF : Hd (Fr w w7 []) := ⟨F6.out.trans h7.fr (fun x hx hm => by simp at hm; have := NG.out; omega)⟩
      have hle := costK_le (bh := (bn : Nat)) (by omega) (by omega) HE.out.symm HL.out 0
      have hT2 : (T : Int) ≤ 4503599627370496 := by rw [hbits]; exact hle.2.1
      clear hmm hcall hp7 h7 hT hbits hxb hle
      go_wp2
      go_ret2
      exact ⟨ret_two (by omega), FF.out⟩
  · have hne : (e != 0) = true := by simpa using h
    obtain ⟨e1, e2⟩ := (show m = 0 ∧ er = e by have := HM.out; rw [if_neg h] at this; exact this)
    subst e1 e2
    clear h HM
    go_wp2
    go_ret2
    exact ⟨rfl, F3.out⟩
set_option maxHeartbeats 8000000 in
theorem rcost1 (w : World) (bh : Int) (h0 : 0 ≤ bh) (h7 : bh ≤ 7) (A : Option Addr) (n c : Nat) (l : List Tok) (p : Option Nat) (hn : l.length = n) (hS : Sl w A (tcells l) p) (hpw : ∀ k, p = some k → k < w.heap.size) (hb : n ≤ 6000000000000) (hl : LitB l) (m er : Int) (hm : if mayB l = 0 then m = (costK 1 bh l).1 ∧ er = (costK 1 bh l).2 else m = 0 ∧ er = mayB l) :
    Calls Tryz.prog 27 #[.int .i64 1, .int .i64 bh, .slice A n c] w fun r w' => r = .returned (.tuple #[.int .i64 m, .int .i64 er]) ∧ Fr w w' [] := by
  obtain ⟨i0, hi0, hz0, hz1, hz2⟩ := info_parts Bits.infoBool
  obtain ⟨j0, hj0, jz0, jz1, jz2⟩ := info_parts Bits.infoU8
  have HS := Hd.mk hS
  have HPW := Hd.mk hpw
  have HL := Hd.mk hl
  obtain ⟨e, he⟩ : ∃ e, e = mayB l := ⟨_, rfl⟩
  rw [← he] at hm
  have HE := Hd.mk he
  have HM := Hd.mk hm
  obtain ⟨bn, rfl⟩ := Int.eq_ofNat_of_zero_le h0
  have hbn : bn ≤ 7 := by omega
  clear hS hl hm he hpw
  go_enter Tryz.func27, Tryz.ntmps27
  go_wp2_with (refine wpList_make_full _ rfl _ _ 28 rfl 0 4 i0 (.bool false) 1 Tryz.underlying28 hi0 hz0 hz1 .i64 .i64 _ _ bn rfl rfl (by omega) (by omega) (by rw [hz2]; omega) (by unfold maxLen; omega) (Nat.zero_le _) ?_; intro w1 hown1 hgrow1; rw [made_bools hbn] at hown1; have O1 := Hd.mk hown1; have G1 := Hd.mk hgrow1; clear hown1 hgrow1)
  have A2 := (Fr.refl w1 []).alloc (.cells #[.slice (some ⟨w.heap.size, 0, none⟩) bn bn] 30)
  have T2 : Hd (RW (w1.alloc (.cells #[.slice (some ⟨w.heap.size, 0, none⟩) bn bn] 30)) w1.heap.size 0 bn (some w.heap.size)) := ⟨⟨_, _, blk_new w1 _, own_frame O1.out A2 (by simp), rfl, Nat.two_pow_pos _⟩⟩
  have F2 : Hd (Fr w (w1.alloc (.cells #[.slice (some ⟨w.heap.size, 0, none⟩) bn bn] 30)) []) := ⟨((Fr.refl w []).grown G1.out (by simp)).trans A2 (by simp)⟩
  have NG : Hd (w.heap.size ≤ w1.heap.size) := ⟨G1.out.size⟩
  clear A2 O1 G1
  generalize w1.alloc (.cells #[.slice (some ⟨w.heap.size, 0, none⟩) bn bn] 30) = w2 at *
  generalize w1.heap.size = gw at *
  refine (rmay_any w2 A n c l p hn (HS.out.frame F2.out (by simp)) hb e HE.out).mono ?_
  rintro r w3 ⟨rfl, h3⟩
  have T3 := Hd.mk (T2.out.frame h3 (by simp) (by simp))
  have F3 := Hd.mk (F2.out.trans h3 (by simp))
  clear h3 T2 F2
  by_cases h : e = 0
  · have hmm : Hd (m = (costK 1 (bn : Nat) l).1 ∧ er = (costK 1 (bn : Nat) l).2) := ⟨by have := HM.out; rw [if_pos h] at this; exact this⟩
    subst h
    have hz := mayB_zero HE.out.symm
    have HZ := Hd.mk hz.2
    have hz1 := hz.1
    have hsl := Lz.sizeOf_le l
    obtain ⟨s, hs⟩ : ∃ s, s = Lz.sizeOf l := ⟨_, rfl⟩
    rw [← hs] at hsl
    have HSZ := Hd.mk hs
    clear hz hs HM
    have HC0 : Hd ((costK 1 (bn : Nat) l).2 = 0) := ⟨by unfold costK; rfl⟩
    have HW0 : Hd ((0 : Int) = wrErr 1 (List.replicate s (0 : Int)).length l) := ⟨by unfold wrErr; rw [if_neg (by omega), if_neg (by rw [← HE.out]; simp), if_neg (fun h => absurd h.1 (by decide)), if_neg (by rw [List.length_replicate, HSZ.out]; simp)]⟩
    go_wp2_with (fail)
    refine (rsize_any w3 A n c l p hn (HS.out.frame F3.out (by simp)) (by omega)).mono ?_
    rintro r w5 ⟨rfl, h5⟩
    rw [← HSZ.out]
    have T5 := Hd.mk (T3.out.frame h5 (by simp) (by simp))
    have F5 := Hd.mk (F3.out.trans h5 (by simp))
    clear h5 T3 F3
    go_wp2_with (refine wpList_make_full _ rfl _ _ 23 rfl 0 5 j0 (.int .u8 0) 1 Tryz.underlying23 hj0 jz0 jz1 .i64 .i64 _ _ s rfl rfl (by omega) (by omega) (by rw [jz2]; omega) (by unfold maxLen; omega) (Nat.zero_le _) ?_; intro w6 hown6 hgrow6; rw [made_u8] at hown6; have O6 := Hd.mk hown6; have G6 := Hd.mk hgrow6; clear hown6 hgrow6)
    have f6 : Fr w5 w6 [] := (Fr.refl w5 []).grown G6.out (by simp)
    have T6 := Hd.mk (T5.out.frame f6 (by simp) (by simp))
    have F6 := Hd.mk (F5.out.trans f6 (by simp))
    have hgd : gw < w5.heap.size ∧ w.heap.size < w5.heap.size := ⟨T5.out.lt.1, T5.out.lt.2 _ rfl⟩
    have HGD := Hd.mk hgd
    clear f6 T5 F5 G6 hgd
    have hcall := rbwrite1 w6 false (some ⟨w5.heap.size, 0, none⟩) s (List.replicate s 0) (some w5.heap.size) (sl_of_own O6.out) (fun x hx => by have := List.eq_of_mem_replicate hx; omega) (by rw [List.length_replicate]; omega) A n c l p hn (HS.out.frame F6.out (by simp)) (by omega) HL.out gw 0 bn (some w.heap.size) T6.out (fun k hk => ⟨fun hm => by
      have h1 := HPW.out k hk
      have h2 := NG.out
      simp at hm
      omega, Nat.lt_of_lt_of_le (HPW.out k hk) F6.out.size⟩) (fun k hk => ⟨fun hm => by
      cases hk
      have h2 := HGD.out
      simp at hm
      omega, by cases hk; exact own_lt O6.out rfl⟩) (by omega) 0 HW0.out
    rw [List.length_replicate] at hcall
    refine hcall.mono ?_
    rintro r w7 ⟨rfl, hp7⟩
    obtain ⟨q7, h7⟩ := hp7.1 rfl
    obtain ⟨T, hT⟩ : ∃ T, T = totOf (blockP 1 bn false (List.replicate s 0) l) := ⟨_, rfl⟩
    have hbits := blockP_bits (k := 1) (m := bn) (b := false) (data := List.replicate s 0) (by decide) HE.out.symm HL.out (by rw [List.length_replicate, HSZ.out]) (by rw [Nat.mod_eq_of_lt (by omega)]; exact HC0.out)
    rw [Nat.mod_eq_of_lt (show bn < 8 by omega), ← hT] at hbits
    obtain ⟨e1, e2⟩ := hmm.out
    rw [HC0.out] at e2
    rw [← hbits] at e1
    subst e1 e2
    obtain ⟨Ax, cx, hxb, _⟩ := h7.rw_
    rw [← hT] at hxb
    have x0 := blk_cell hxb 0
    simp only [List.getElem?_toArray, List.getElem?_cons_zero] at x0
    have FF : Hd (Fr w w7 []) := ⟨F6.out.trans h7.fr (fun x hx hm => by simp at hm; have := NG.out; omega)⟩
    have hle := costK_le (bh := (bn : Nat)) (by omega) (by omega) HE.out.symm HL.out 1
    have hT2 : (T : Int) ≤ 4503599627370496 := by rw [hbits]; exact hle.2.1
    clear hmm hcall hp7 h7 hT hbits hxb hle
    go_wp2
    go_ret2
    exact ⟨ret_two (by omega), FF.out⟩
  · have hne : (e != 0) = true := by simpa using h
    obtain ⟨e1, e2⟩ := (show m = 0 ∧ er = e by have := HM.out; rw [if_neg h] at this; exact this)
    subst e1 e2
    clear h HM
    go_wp2
    go_ret2
    exact ⟨rfl, F3.out⟩
set_option maxHeartbeats 8000000 in
theorem rcost2 (w : World) (bh : Int) (h0 : 0 ≤ bh) (h7 : bh ≤ 7) (A : Option Addr) (n c : Nat) (l : List Tok) (p : Option Nat) (hn : l.length = n) (hS : Sl w A (tcells l) p) (hpw : ∀ k, p = some k → k < w.heap.size) (hb : n ≤ 6000000000000) (hl : LitB l) (m er : Int) (hm : if mayB l = 0 then m = (costK 2 bh l).1 ∧ er = (costK 2 bh l).2 else m = 0 ∧ er = mayB l) :
    Calls Tryz.prog 27 #[.int .i64 2, .int .i64 bh, .slice A n c] w fun r w' => r = .returned (.tuple #[.int .i64 m, .int .i64 er]) ∧ Fr w w' [] := by
  obtain ⟨i0, hi0, hz0, hz1, hz2⟩ := info_parts Bits.infoBool
  obtain ⟨j0, hj0, jz0, jz1, jz2⟩ := info_parts Bits.infoU8
  have HS := Hd.mk hS
  have HPW := Hd.mk hpw
  have HL := Hd.mk hl
  obtain ⟨e, he⟩ : ∃ e, e = mayB l := ⟨_, rfl⟩
  rw [← he] at hm
  have HE := Hd.mk he
  have HM := Hd.mk hm
  obtain ⟨bn, rfl⟩ := Int.eq_ofNat_of_zero_le h0
  have hbn : bn ≤ 7 := by omega
  clear hS hl hm he hpw
  go_enter Tryz.func27, Tryz.ntmps27
  go_wp2_with (refine wpList_make_full _ rfl _ _ 28 rfl 0 4 i0 (.bool false) 1 Tryz.underlying28 hi0 hz0 hz1 .i64 .i64 _ _ bn rfl rfl (by omega) (by omega) (by rw [hz2]; omega) (by unfold maxLen; omega) (Nat.zero_le _) ?_; intro w1 hown1 hgrow1; rw [made_bools hbn] at hown1; have O1 := Hd.mk hown1; have G1 := Hd.mk hgrow1; clear hown1 hgrow1)
  have A2 := (Fr.refl w1 []).alloc (.cells #[.slice (some ⟨w.heap.size, 0, none⟩) bn bn] 30)
  have T2 : Hd (RW (w1.alloc (.cells #[.slice (some ⟨w.heap.size, 0, none⟩) bn bn] 30)) w1.heap.size 0 bn (some w.heap.size)) := ⟨⟨_, _, blk_new w1 _, own_frame O1.out A2 (by simp), rfl, Nat.two_pow_pos _⟩⟩
  have F2 : Hd (Fr w (w1.alloc (.cells #[.slice (some ⟨w.heap.size, 0, none⟩) bn bn] 30)) []) := ⟨((Fr.refl w []).grown G1.out (by simp)).trans A2 (by simp)⟩
  have NG : Hd (w.heap.size ≤ w1.heap.size) := ⟨G1.out.size⟩
  clear A2 O1 G1
  generalize w1.alloc (.cells #[.slice (some ⟨w.heap.size, 0, none⟩) bn bn] 30) = w2 at *
  generalize w1.heap.size = gw at *
  refine (rmay_any w2 A n c l p hn (HS.out.frame F2.out (by simp)) hb e HE.out).mono ?_
  rintro r w3 ⟨rfl, h3⟩
  have T3 := Hd.mk (T2.out.frame h3 (by simp) (by simp))
  have F3 := Hd.mk (F2.out.trans h3 (by simp))
  clear h3 T2 F2
  by_cases h : e = 0
  · have hmm : Hd (m = (costK 2 (bn : Nat) l).1 ∧ er = (costK 2 (bn : Nat) l).2) := ⟨by have := HM.out; rw [if_pos h] at this; exact this⟩
    subst h
    have hz := mayB_zero HE.out.symm
    have HZ := Hd.mk hz.2
    have hz1 := hz.1
    have hsl := Lz.sizeOf_le l
    obtain ⟨s, hs⟩ : ∃ s, s = Lz.sizeOf l := ⟨_, rfl⟩
    rw [← hs] at hsl
    have HSZ := Hd.mk hs
    clear hz hs HM
    have HC0 : Hd ((costK 2 (bn : Nat) l).2 = 0) := ⟨by unfold costK; rfl⟩
    have HW0 : Hd ((0 : Int) = wrErr 2 (List.replicate s (0 : Int)).length l) := ⟨by unfold wrErr; rw [if_neg (by omega), if_neg (by rw [← HE.out]; simp), if_neg (fun h => absurd h.1 (by decide)), if_neg (by rw [List.length_replicate, HSZ.out]; simp)]⟩
    go_wp2_with (fail)
    refine (rsize_any w3 A n c l p hn (HS.out.frame F3.out (by simp)) (by omega)).mono ?_
    rintro r w5 ⟨rfl, h5⟩
    rw [← HSZ.out]
    have T5 := Hd.mk (T3.out.frame h5 (by simp) (by simp))
    have F5 := Hd.mk (F3.out.trans h5 (by simp))
    clear h5 T3 F3
    go_wp2_with (refine wpList_make_full _ rfl _ _ 23 rfl 0 5 j0 (.int .u8 0) 1 Tryz.underlying23 hj0 jz0 jz1 .i64 .i64 _ _ s rfl rfl (by omega) (by omega) (by rw [jz2]; omega) (by unfold maxLen; omega) (Nat.zero_le _) ?_; intro w6 hown6 hgrow6; rw [made_u8] at hown6; have O6 := Hd.mk hown6; have G6 := Hd.mk hgrow6; clear hown6 hgrow6)
    have f6 : Fr w5 w6 [] := (Fr.refl w5 []).grown G6.out (by simp)
    have T6 := Hd.mk (T5.out.frame f6 (by simp) (by simp))
    have F6 := Hd.mk (F5.out.trans f6 (by simp))
    have hgd : gw < w5.heap.size ∧ w.heap.size < w5.heap.size := ⟨T5.out.lt.1, T5.out.lt.2 _ rfl⟩
    have HGD := Hd.mk hgd
    clear f6 T5 F5 G6 hgd
    have hcall := rbwrite2 w6 false (some ⟨w5.heap.size, 0, none⟩) s (List.replicate s 0) (some w5.heap.size) (sl_of_own O6.out) (fun x hx => by have := List.eq_of_mem_replicate hx; omega) (by rw [List.length_replicate]; omega) A n c l p hn (HS.out.frame F6.out (by simp)) (by omega) HL.out gw 0 bn (some w.heap.size) T6.out (fun k hk => ⟨fun hm => by
      have h1 := HPW.out k hk
      have h2 := NG.out
      simp at hm
      omega, Nat.lt_of_lt_of_le (HPW.out k hk) F6.out.size⟩) (fun k hk => ⟨fun hm => by
      cases hk
      have h2 := HGD.out
      simp at hm
      omega, by cases hk; exact own_lt O6.out rfl⟩) (by omega) 0 HW0.out
    rw [List.length_replicate] at hcall
    refine hcall.mono ?_
    rintro r w7 ⟨rfl, hp7⟩
    obtain ⟨q7, h7⟩ := hp7.1 rfl
    obtain ⟨T, hT⟩ : ∃ T, T = totOf (blockP 2 bn false (List.replicate s 0) l) := ⟨_, rfl⟩
    have hbits := blockP_bits (k := 2) (m := bn) (b := false) (data := List.replicate s 0) (by decide) HE.out.symm HL.out (by rw [List.length_replicate, HSZ.out]) (by rw [Nat.mod_eq_of_lt (by omega)]; exact HC0.out)
    rw [Nat.mod_eq_of_lt (show bn < 8 by omega), ← hT] at hbits
    obtain ⟨e1, e2⟩ := hmm.out
    rw [HC0.out] at e2
    rw [← hbits] at e1
    subst e1 e2
    obtain ⟨Ax, cx, hxb, _⟩ := h7.rw_
    rw [← hT] at hxb
    have x0 := blk_cell hxb 0
    simp only [List.getElem?_toArray, List.getElem?_cons_zero] at x0
    have FF : Hd (Fr w w7 []) := ⟨F6.out.trans h7.fr (fun x hx hm => by simp at hm; have := NG.out; omega)⟩
    have hle := costK_le (bh := (bn : Nat)) (by omega) (by omega) HE.out.symm HL.out 2
    have hT2 : (T : Int) ≤ 4503599627370496 := by rw [hbits]; exact hle.2.1
    clear hmm hcall hp7 h7 hT hbits hxb hle
    go_wp2
    go_ret2
    exact ⟨ret_two (by omega), FF.out⟩
  · have hne : (e != 0) = true := by simpa using h
    obtain ⟨e1, e2⟩ := (show m = 0 ∧ er = e by have := HM.out; rw [if_neg h] at this; exact this)
    subst e1 e2
    clear h HM
    go_wp2
    go_ret2
    exact ⟨rfl, F3.out⟩
theorem rcost3_any (w : World) (k : Nat) (hk : k < 3) (bh : Int) (h0 : 0 ≤ bh) (h7 : bh ≤ 7) (A : Option Addr) (n c : Nat) (l : List Tok) (p : Option Nat) (hn : l.length = n) (hS : Sl w A (tcells l) p) (hpw : ∀ k, p = some k → k < w.heap.size) (hb : n ≤ 6000000000000) (hl : LitB l) (m er : Int) (hm : if mayB l = 0 then m = (costK k bh l).1 ∧ er = (costK k bh l).2 else m = 0 ∧ er = mayB l) :
    Calls Tryz.prog 27 #[.int .i64 (k : Nat), .int .i64 bh, .slice A n c] w fun r w' => r = .returned (.tuple #[.int .i64 m, .int .i64 er]) ∧ Fr w w' [] := by
  have hc : k = 0 ∨ k = 1 ∨ k = 2 := by omega
  rcases hc with rfl | rfl | rfl
  · exact rcost0 w bh h0 h7 A n c l p hn hS hpw hb hl m er hm
  · exact rcost1 w bh h0 h7 A n c l p hn hS hpw hb hl m er hm
  · exact rcost2 w bh h0 h7 A n c l p hn hS hpw hb hl m er hm
theorem rcost_no (w : World) (k bh : Int) (A : Option Addr) (n c : Nat) (hno : k < 0 ∨ 2 < k ∨ bh < 0 ∨ 7 < bh) :
    Calls Tryz.prog 27 #[.int .i64 k, .int .i64 bh, .slice A n c] w fun r w' => r = .returned (.tuple #[.int .i64 0, .int .i64 1]) ∧ Fr w w' [] := by
  go_enter Tryz.func27, Tryz.ntmps27
  by_cases h1 : k < 0
  · clear hno
    go_wp2
    go_ret2
    exact ⟨rfl, Fr.refl _ _⟩
  by_cases h2 : 2 < k
  · clear hno
    go_wp2
    go_ret2
    exact ⟨rfl, Fr.refl _ _⟩
  by_cases h3 : bh < 0
  · clear hno
    go_wp2
    go_ret2
    exact ⟨rfl, Fr.refl _ _⟩
  · have h4 : 7 < bh := by omega
    clear hno
    go_wp2
    go_ret2
    exact ⟨rfl, Fr.refl _ _⟩
/-! ### Pick -/
def pickR (bh : Int) (l : List Tok) : Nat → Int × Int
  | 0 => (-1, 0)
  | k + 1 => if (costK k bh l).2 = 0 ∧ ((pickR bh l k).1 < 0 ∨ (costK k bh l).1 < (pickR bh l k).2) then ((k : Int), (costK k bh l).1) else pickR bh l k
theorem pickR_F {bh : Int} (h0 : 0 ≤ bh) (h7 : bh ≤ 7) {l : List Tok} (h : mayB l = 0) (hl : LitB l) : ∀ k, ((pickR bh l k = (-1, 0) ∧ pickF bh l k = (1, -1)) ∨ (0 ≤ (pickR bh l k).1 ∧ 0 ≤ (pickR bh l k).2 ∧ pickR bh l k = pickF bh l k))
  | 0 => .inl ⟨rfl, rfl⟩
  | k + 1 => by
    have hc := costK_le h0 h7 h hl k
    rw [pickR, pickF]
    rcases pickR_F h0 h7 h hl k with ⟨h1, h2⟩ | ⟨h1, h2, h3⟩
    · rw [h1, h2]
      by_cases he : (costK k bh l).2 = 0
      · rw [if_pos ⟨he, .inl (by decide)⟩, if_pos ⟨he, .inl (by decide)⟩]
        exact .inr ⟨by simp, by have := hc.2.2 he; simp only; omega, rfl⟩
      · rw [if_neg (fun x => he x.1), if_neg (fun x => he x.1)]
        exact .inl ⟨rfl, rfl⟩
    · rw [← h3]
      by_cases hx : (costK k bh l).2 = 0 ∧ (costK k bh l).1 < (pickR bh l k).2
      · rw [if_pos ⟨hx.1, .inr hx.2⟩, if_pos ⟨hx.1, .inr hx.2⟩]
        exact .inr ⟨by simp, by have := hc.2.2 hx.1; simp only; omega, rfl⟩
      · rw [if_neg (fun x => hx ⟨x.1, x.2.resolve_left (by omega)⟩), if_neg (fun x => hx ⟨x.1, x.2.resolve_left (by omega)⟩)]
        exact .inr ⟨h1, h2, rfl⟩
theorem pickR_three {bh : Int} (h0 : 0 ≤ bh) (h7 : bh ≤ 7) {l : List Tok} (h : mayB l = 0) (hl : LitB l) : (pickR bh l 3).1 = (pickF bh l 3).1 := by
  rcases pickR_F h0 h7 h hl 3 with ⟨h1, h2⟩ | ⟨_, _, h3⟩
  · have := (pickF_best h0 h7 h hl 3 (Nat.le_refl _)).1 1 (by decide) rfl
    rw [h2] at this
    simp at this
  · rw [h3]
theorem pickR_le {bh : Int} (h0 : 0 ≤ bh) (h7 : bh ≤ 7) {l : List Tok} (h : mayB l = 0) (hl : LitB l) (k : Nat) (hk : k ≤ 3) : -1 ≤ (pickR bh l k).1 ∧ (pickR bh l k).1 ≤ 2 ∧ 0 ≤ (pickR bh l k).2 ∧ (pickR bh l k).2 ≤ 4503599627370496 := by
  have hp := pickF_le h0 h7 h hl k hk
  rcases pickR_F h0 h7 h hl k with ⟨h1, h2⟩ | ⟨h1, h2, h3⟩
  · rw [h1]; simp only; omega
  · rw [h3] at h1 h2 ⊢; omega
set_option maxHeartbeats 8000000 in
theorem rpick_any (w : World) (bh : Int) (h0 : 0 ≤ bh) (h7 : bh ≤ 7) (A : Option Addr) (n c : Nat) (l : List Tok) (p : Option Nat) (hn : l.length = n) (hS : Sl w A (tcells l) p) (hpw : ∀ k, p = some k → k < w.heap.size) (hb : n ≤ 6000000000000) (hl : LitB l) (m er : Int) (hm : if mayB l = 0 then m = (pickF bh l 3).1 ∧ er = 0 else m = 0 ∧ er = mayB l) :
    Calls Tryz.prog 29 #[.int .i64 bh, .slice A n c] w fun r w' => r = .returned (.tuple #[.int .i64 m, .int .i64 er]) ∧ Fr w w' [] := by
  have HS := Hd.mk hS
  have HPW := Hd.mk hpw
  have HL := Hd.mk hl
  obtain ⟨e, he⟩ : ∃ e, e = mayB l := ⟨_, rfl⟩
  rw [← he] at hm
  have HE := Hd.mk he
  have HM := Hd.mk hm
  clear hS hl hm he hpw
  go_enter Tryz.func29, Tryz.ntmps29
  go_wp2_with (fail)
  refine (rmay_any w A n c l p hn HS.out hb e HE.out).mono ?_
  rintro r w1 ⟨rfl, h1⟩
  have F1 := Hd.mk h1
  clear h1
  by_cases h : e = 0
  · subst h
    have hmm : Hd (m = (pickR bh l 3).1 ∧ er = 0) := ⟨by have := HM.out; rw [if_pos rfl] at this; rw [pickR_three h0 h7 HE.out.symm HL.out]; exact this⟩
    obtain rfl : er = 0 := hmm.out.2
    have hz := mayB_zero HE.out.symm
    have hz1 := hz.1
    have HB := Hd.mk (And.intro (fun k => costK_le h0 h7 HE.out.symm HL.out k) (fun k hk => pickR_le h0 h7 HE.out.symm HL.out k hk))
    clear hz HM
    go_wp2
    go_loopg [7, 8, 9] 3 (fun kq bv lv jv wr => ∃ (j : Nat) (b s : Int), bv = .int .i64 b ∧ lv = .int .i64 s ∧ jv = .int .i64 (j : Nat) ∧ j + kq = 3 ∧ Hd ((b, s) = pickR bh l j) ∧ Hd (Fr w wr []))
    case atStart => exact ⟨0, -1, 0, rfl, rfl, rfl, by omega, ⟨rfl⟩, F1⟩
    case round =>
      obtain ⟨j, b, s, rfl, rfl, rfl, hj, HP, HF⟩ := hrel
      by_cases hj3 : j < 3
      · have hcl := HB.out.1 j
        have hpl := HB.out.2 j (by omega)
        rw [← HP.out] at hpl
        simp only at hpl
        obtain ⟨⟨cm, ce⟩, hc⟩ : ∃ x, x = costK j bh l := ⟨_, rfl⟩
        rw [← hc] at hcl
        simp only at hcl
        have HC := Hd.mk hc
        have HNX : Hd (pickR bh l (j + 1) = if ce = 0 ∧ (b < 0 ∨ cm < s) then ((j : Int), cm) else (b, s)) := ⟨by rw [pickR, ← hc, ← HP.out]⟩
        have hj2 : (j : Int) ≤ 2 := by omega
        have hcl1 := hcl.1
        have hcl2 := hcl.2.1
        clear hc hcl HP
        go_wp2_with (fail)
        refine (rcost3_any wr j hj3 bh h0 h7 A n c l p hn (HS.out.frame HF.out (by simp)) (fun k hk => Nat.lt_of_lt_of_le (HPW.out k hk) HF.out.size) hb HL.out cm ce (by rw [← HE.out, if_pos rfl, ← HC.out]; exact ⟨rfl, rfl⟩)).mono ?_
        rintro r w2 ⟨rfl, h2⟩
        have F2 := Hd.mk (HF.out.trans h2 (by simp))
        clear h2 HF
        by_cases hce : ce = 0
        · subst hce
          by_cases hb0 : b < 0
          · have HN2 : Hd (pickR bh l (j + 1) = ((j : Int), cm)) := ⟨by rw [HNX.out, if_pos ⟨rfl, .inl hb0⟩]⟩
            have hd1 : decide (b < 0) = true := by simpa using hb0
            clear HNX
            go_wp2
            go_roundg (gk - 1)
            case measure => omega
            case rel => exact ⟨j + 1, (j : Int), cm, rfl, rfl, by go_num, by omega, ⟨HN2.out.symm⟩, F2⟩
          · have hd1 : decide (b < 0) = false := by simpa using hb0
            by_cases hcs : cm < s
            · have HN2 : Hd (pickR bh l (j + 1) = ((j : Int), cm)) := ⟨by rw [HNX.out, if_pos ⟨rfl, .inr hcs⟩]⟩
              have hd2 : decide (cm < s) = true := by simpa using hcs
              clear HNX
              go_wp2
              go_roundg (gk - 1)
              case measure => omega
              case rel => exact ⟨j + 1, (j : Int), cm, rfl, rfl, by go_num, by omega, ⟨HN2.out.symm⟩, F2⟩
            · have HN2 : Hd (pickR bh l (j + 1) = (b, s)) := ⟨by rw [HNX.out, if_neg (fun x => x.2.elim hb0 hcs)]⟩
              have hd2 : decide (cm < s) = false := by simpa using hcs
              clear HNX
              go_wp2
              go_roundg (gk - 1)
              case measure => omega
              case rel => exact ⟨j + 1, b, s, rfl, rfl, by go_num, by omega, ⟨HN2.out.symm⟩, F2⟩
        · have HN2 : Hd (pickR bh l (j + 1) = (b, s)) := ⟨by rw [HNX.out, if_neg (fun x => hce x.1)]⟩
          have hd2 : (ce == 0) = false := by simpa using hce
          clear HNX
          go_wp2
          go_roundg (gk - 1)
          case measure => omega
          case rel => exact ⟨j + 1, b, s, rfl, rfl, by go_num, by omega, ⟨HN2.out.symm⟩, F2⟩
      · obtain rfl : j = 3 := by omega
        obtain rfl : m = b := by rw [hmm.out.1, ← HP.out]
        clear hmm
        go_wp2
        go_ret2
        exact ⟨rfl, HF.out⟩
  · have hne : (e != 0) = true := by simpa using h
    obtain ⟨e1, e2⟩ := (show m = 0 ∧ er = e by have := HM.out; rw [if_neg h] at this; exact this)
    subst e1 e2
    clear h HM
    go_wp2
    go_ret2
    exact ⟨rfl, F1.out⟩
theorem rpick_no (w : World) (bh : Int) (A : Option Addr) (n c : Nat) (hno : bh < 0 ∨ 7 < bh) :
    Calls Tryz.prog 29 #[.int .i64 bh, .slice A n c] w fun r w' => r = .returned (.tuple #[.int .i64 0, .int .i64 1]) ∧ Fr w w' [] := by
  go_enter Tryz.func29, Tryz.ntmps29
  by_cases h1 : bh < 0
  · clear hno
    go_wp2
    go_ret2
    exact ⟨rfl, Fr.refl _ _⟩
  · have h4 : 7 < bh := by omega
    clear hno
    go_wp2
    go_ret2
    exact ⟨rfl, Fr.refl _ _⟩
end Go.Proofs.YtkdgfioigkijgaaGreat.Blk
/- Tokens in the program's type, in a longer list (the laws' face). Conditions: at most 2^20 tokens. -/
set_option linter.unusedVariables false
set_option linter.unusedSimpArgs false
set_option maxRecDepth 100000
namespace Go.Proofs.YtkdgfioigkijgaaGreat.Lz
open Go.RowKit Go.Proofs.YtkdgfioigkijgaaGreat.Lib Go.Proofs.YtkdgfioigkijgaaGreat.Num Go.Proofs.YtkdgfioigkijgaaGreat.Bits

theorem infoTok : (Tryz.prog.info? 77).map (fun i => (i.zero, i.size, i.bytes)) = some (some (.agg #[.int .u8 0, .int .i64 0, .int .i64 0]), 3, 24) := by kernel_rfl
theorem tokOwn_new {wo w : World} {q q' : Option Nat} (hB : ∀ x, q = some x → wo.heap.size ≤ x) (hs : wo.heap.size ≤ w.heap.size) {o : Obj} (h : Aft (w.alloc o) q q') : ∀ y, q' = some y → wo.heap.size ≤ y := by
  intro y hy
  rcases h with e | ⟨z, e, hz⟩
  · rw [e] at hy; exact hB y hy
  · rw [e] at hy; cases hy; simp at hz; omega
instance : DecidableEq Tok := fun a b =>
  if h : a.lit = b.lit ∧ a.len = b.len ∧ a.dist = b.dist then isTrue (by cases a; cases b; simp only at h; obtain ⟨rfl, rfl, rfl⟩ := h; rfl) else isFalse (by rintro rfl; exact h ⟨rfl, rfl, rfl⟩)
def tail2 : List Tok := [⟨0, 77, 0⟩, ⟨0, 78, 0⟩]
end Go.Proofs.YtkdgfioigkijgaaGreat.Lz
/- Chapter 09's law: same, kept. No condition. -/
set_option linter.unusedVariables false
set_option linter.unusedSimpArgs false
set_option maxRecDepth 100000
namespace Go.Proofs.YtkdgfioigkijgaaGreat.Blk
open Go.RowKit Go.Proofs.YtkdgfioigkijgaaGreat.Lib Go.Proofs.YtkdgfioigkijgaaGreat.Ints Go.Proofs.YtkdgfioigkijgaaGreat.Lz
theorem bcell {w w' : World} {F : List Nat} (h : Fr w w' F) {a : Addr} {v : Value} (hc : w.cell? a = some v) (hF : a.block ∉ F) : w'.cell? a = some v := by
  rw [World.cell?_of_block (w := w) (h.block _ (World.block_lt_of_cell? w _ hc) hF)]; exact hc
theorem tail2_get (l : List Tok) : (l ++ tail2)[l.length]? = some ⟨0, 77, 0⟩ ∧ (l ++ tail2)[l.length + 1]? = some ⟨0, 78, 0⟩ := by
  constructor
  · rw [List.getElem?_append_right (Nat.le_refl _), Nat.sub_self]; rfl
  · rw [List.getElem?_append_right (by omega), show l.length + 1 - l.length = 1 from by omega]; rfl
set_option maxHeartbeats 4000000 in
theorem bkept_any (w : World) (g d : Nat) (A : Option Addr) (n c : Nat) (l : List Tok) (p : Option Nat) (hn : l.length = n) (hW : Sl w (some ⟨g, 0, none⟩) (tcells (l ++ tail2)) (some g)) (hS : Sl w A (tcells l) p) (hn1 : n ≤ 4611686018427387904) :
    Calls Tryz.prog 20 #[.slice (some ⟨g, 0, none⟩) (n + 2) d, .slice A n c] w fun e w' => e = .returned (.bool true) ∧ Fr w w' [] := by
  subst hn
  have HS := Hd.mk hS
  have HW := Hd.mk hW
  clear hS hW
  have hlw : (l ++ tail2).length = l.length + 2 := by rw [List.length_append]; rfl
  go_enter Tryz.func20, Tryz.ntmps20
  go_wp2
  go_loopg [12] l.length (fun kq jv wr => ∃ j : Nat, jv = .int .i64 (j : Nat) ∧ j + kq = l.length ∧ Hd (Fr w wr []))
  case atStart => exact ⟨0, rfl, by omega, ⟨Fr.refl _ _⟩⟩
  case round =>
    obtain ⟨j, rfl, hj, HF⟩ := hrel
    by_cases h1 : j < l.length
    · obtain ⟨a, o1, rfl, _, ha⟩ := Sl.row (enc := tcell) (sz := 3) (fun _ => rfl) (HS.out.frame HF.out (by simp)) h1 (by decide)
      obtain ⟨b, o2, e2, _, hb⟩ := Sl.row (enc := tcell) (sz := 3) (fun _ => rfl) (HW.out.frame HF.out (by simp)) (show j < (l ++ tail2).length by omega) (by decide)
      cases e2
      have hge : (l ++ tail2)[j]'(by omega) = l[j] := List.getElem_append_left h1
      rw [hge] at hb
      obtain ⟨t, ht⟩ : ∃ t, t = l[j] := ⟨_, rfl⟩
      rw [← ht] at ha hb
      obtain ⟨lt, ln, ds⟩ := t
      have c0 := ha 0 (by decide)
      have c1 := ha 1 (by decide)
      have c2 := ha 2 (by decide)
      have b0 := hb 0 (by decide)
      have b1 := hb 1 (by decide)
      have b2 := hb 2 (by decide)
      simp only [tcell, List.getElem?_cons_zero, List.getElem?_cons_succ, Nat.add_zero, Nat.zero_add] at c0 c1 c2 b0 b1 b2
      have e0 : (lt == lt) = true := by simp
      have e1 : (ln == ln) = true := by simp
      have e3 : (ds == ds) = true := by simp
      clear ha hb ht hge
      go_upto_region 5 with (fail)
      have bz := blk_new wr (.cells #[.int .u8 lt, .int .i64 ln, .int .i64 ds] 80)
      have A1 := (Fr.refl wr []).alloc (.cells #[.int .u8 lt, .int .i64 ln, .int .i64 ds] 80)
      have g0 := blk_cell bz 0
      have g1 := blk_cell bz 1
      have g2 := blk_cell bz 2
      simp only [List.getElem?_toArray, List.getElem?_cons_zero, List.getElem?_cons_succ] at g0 g1 g2
      have d0 := bcell A1 b0 (by simp)
      have d1 := bcell A1 b1 (by simp)
      have d2 := bcell A1 b2 (by simp)
      have F1 := Hd.mk (HF.out.trans A1 (by simp))
      clear bz A1 b0 b1 b2 c0 c1 c2 HF
      generalize wr.alloc (.cells #[.int .u8 lt, .int .i64 ln, .int .i64 ds] 80) = w1 at *
      generalize wr.heap.size = gb at *
      have hj2 : (j : Int) < (l.length : Nat) + 2 := by omega
      go_region
      go_wp2
      go_roundg (gk - 1)
      case measure => omega
      case rel => exact ⟨j + 1, by go_num, by omega, ⟨F1.out.drew⟩⟩
    · obtain rfl : j = l.length := by omega
      obtain ⟨g1, g2⟩ := tail2_get l
      obtain ⟨b1, o2, e2, _, hb1⟩ := Sl.row (enc := tcell) (sz := 3) (fun _ => rfl) (HW.out.frame HF.out (by simp)) (show l.length < (l ++ tail2).length by omega) (by decide)
      cases e2
      obtain ⟨b2, o3, e3, _, hb2⟩ := Sl.row (enc := tcell) (sz := 3) (fun _ => rfl) (HW.out.frame HF.out (by simp)) (show l.length + 1 < (l ++ tail2).length by omega) (by decide)
      cases e3
      have k1 := hb1 1 (by decide)
      have k2 := hb2 1 (by decide)
      rw [show (l ++ tail2)[l.length]'(by omega) = ⟨0, 77, 0⟩ from (List.getElem?_eq_some_iff.1 g1).2] at k1
      rw [show (l ++ tail2)[l.length + 1]'(by omega) = ⟨0, 78, 0⟩ from (List.getElem?_eq_some_iff.1 g2).2] at k2
      simp only [tcell, List.getElem?_cons_zero, List.getElem?_cons_succ, Nat.zero_add] at k1 k2
      clear hb1 hb2 g1 g2
      go_wp2
      go_ret
      exact ⟨rfl, HF.out⟩
end Go.Proofs.YtkdgfioigkijgaaGreat.Blk
/- Tokens in the program's type, in a longer list: however many memory holds. No condition but that. -/
set_option linter.unusedVariables false
set_option linter.unusedSimpArgs false
set_option maxRecDepth 100000
namespace Go.Proofs.YtkdgfioigkijgaaGreat.Lz
open Go.RowKit Go.Proofs.YtkdgfioigkijgaaGreat.Lib Go.Proofs.YtkdgfioigkijgaaGreat.Num Go.Proofs.YtkdgfioigkijgaaGreat.Bits
set_option maxHeartbeats 4000000 in
theorem face_all (w : World) (A : Option Addr) (n c : Nat) (l : List Tok) (p : Option Nat) (hn : l.length = n) (hS : Sl w A (tcells l) p) (hb : n * 24 ≤ 140737488355232) :
    Calls Tryz.prog 15 #[.slice A n c] w fun e w' => ∃ g d, e = .returned (.tuple #[.slice (some ⟨g, 0, none⟩) (n + 2) d, .slice (some ⟨g, 0, none⟩) n d]) ∧
      w'.ownsRow 0 77 3 (.slice (some ⟨g, 0, none⟩) (n + 2) d) (n + 2) (tcells (l ++ tail2)) ∧ w.heap.size ≤ g ∧ Fr w w' [] := by
  obtain ⟨i0, hi0, hz0, hz1, hz2⟩ := info_parts infoTok
  subst hn
  have HS := Hd.mk hS
  clear hS
  go_enter Tryz.func15, Tryz.ntmps15
  go_wp2
  go_loopg [4, 9] l.length (fun kq sv jv wr => ∃ (j : Nat) (A1 : Option Addr) (m d1 : Nat), sv = .slice A1 m d1 ∧ jv = .int .i64 (j : Nat) ∧ j + kq = l.length ∧ m ≤ l.length ∧ Hd (m = j) ∧ Hd (wr.ownsRow 0 77 3 (.slice A1 m d1) m (tcells (l.take j))) ∧ Hd (∀ y, (Value.slice A1 m d1).ownBlock = some y → w.heap.size ≤ y) ∧ Hd (Fr w wr []))
  case atStart => exact ⟨0, none, 0, 0, rfl, rfl, by omega, by omega, ⟨rfl⟩, ⟨own_nil _ _ _ _⟩, ⟨by intro y hy; cases hy⟩, ⟨Fr.refl _ _⟩⟩
  case round =>
    obtain ⟨j, A1, m, d1, rfl, rfl, hj, hmj, HM, HO, HB, HF⟩ := hrel
    by_cases h1 : j < l.length
    · obtain ⟨a, o1, rfl, _, ha⟩ := Sl.row (enc := tcell) (sz := 3) (fun _ => rfl) (HS.out.frame HF.out (by simp)) h1 (by decide)
      obtain ⟨t, ht⟩ : ∃ t, t = l[j] := ⟨_, rfl⟩
      rw [← ht] at ha
      obtain ⟨lt, ln, ds⟩ := t
      have c0 := ha 0 (by decide)
      have c1 := ha 1 (by decide)
      have c2 := ha 2 (by decide)
      simp only [tcell, List.getElem?_cons_zero, List.getElem?_cons_succ, Nat.add_zero] at c0 c1 c2
      have HT := Hd.mk ht
      have hm2 : m + 1 ≤ l.length := by have := HM.out; omega
      have hks := blk_new wr (.cells #[.int .u8 lt, .int .i64 ln, .int .i64 ds] 80)
      have hfs := HF.out.alloc (.cells #[.int .u8 lt, .int .i64 ln, .int .i64 ds] 80)
      have hos := HO.out.alloc (.cells #[.int .u8 lt, .int .i64 ln, .int .i64 ds] 80)
      clear ha ht HO
      go_upto_region 5 with (fail)
      generalize hwt : wr.alloc (.cells #[.int .u8 lt, .int .i64 ln, .int .i64 ds] 80) = wt
      rw [hwt] at hks hfs hos
      have HFs := Hd.mk hfs
      have HOs := Hd.mk hos
      have g0 := blk_cell hks 0
      have g1 := blk_cell hks 1
      have g2 := blk_cell hks 2
      simp only [List.getElem?_toArray, List.getElem?_cons_zero, List.getElem?_cons_succ] at g0 g1 g2
      clear hfs hos hks c0 c1 c2 hwt
      go_wp2_with (at_builtin; refine wpList_append_sl rfl (.tmp 13) (.tmp 21) 41 rfl 77 i0 (.agg #[.int .u8 0, .int .i64 0, .int .i64 0]) 3 24 Tryz.underlying41 hi0 hz0 hz1 hz2 rfl (by decide) (.slice A1 m d1) m _ rfl (by exact HOs.out.alloc _) (some ⟨wt.heap.size, 0, none⟩) 1 1 [.int .u8 lt, .int .i64 ln, .int .i64 ds] (some wt.heap.size) rfl rfl (by exact sl_of_blk (blk_new _ _)) (by intro h; cases h) (by intro u hu; simp at hu; rcases hu with rfl | rfl | rfl <;> rfl) (by unfold maxLen; omega) (by omega) ?_; intro A3 d3 w6 hown' hgrow haft; have O3 := Hd.mk hown'; have G3 := Hd.mk hgrow; have F3 := Hd.mk haft; clear hown' hgrow haft)
      go_roundg (gk - 1)
      case measure => omega
      case rel =>
        refine ⟨j + 1, A3, m + 1, d3, rfl, by go_num, by omega, hm2, ⟨by rw [HM.out]⟩, ⟨?_⟩, ⟨tokOwn_new HB.out HFs.out.size F3.out⟩, ⟨(HFs.out.alloc _).grown G3.out (fun y hy => .inr (HB.out y hy))⟩⟩
        rw [List.take_succ_eq_append_getElem h1, ← HT.out, tcells_app]
        exact O3.out
    · obtain rfl : j = l.length := by omega
      obtain rfl : m = l.length := HM.out
      have HO2 : Hd (wr.ownsRow 0 77 3 (.slice A1 l.length d1) l.length (tcells l)) := ⟨by have := HO.out; rwa [List.take_length] at this⟩
      clear HO
      go_wp2_with (at_builtin; refine wpList_append_sl rfl (.tmp 24) (.tmp 27) 41 rfl 77 i0 (.agg #[.int .u8 0, .int .i64 0, .int .i64 0]) 3 24 Tryz.underlying41 hi0 hz0 hz1 hz2 rfl (by decide) (.slice A1 l.length d1) l.length _ rfl (by exact HO2.out.alloc _) (some ⟨wr.heap.size, 0, none⟩) 2 2 [.int .u8 0, .int .i64 77, .int .i64 0, .int .u8 0, .int .i64 78, .int .i64 0] (some wr.heap.size) rfl rfl (by exact sl_of_blk (blk_new _ _)) (by intro h; cases h) (by intro u hu; simp at hu; rcases hu with rfl | rfl | rfl | rfl | rfl | rfl <;> rfl) (by unfold maxLen; omega) (by omega) ?_; intro A3 d3 w6 hown' hgrow haft; have O3 := Hd.mk hown'; have G3 := Hd.mk hgrow; have F3 := Hd.mk haft; have hd3 : l.length + 2 ≤ d3 := (by obtain ⟨_, _, e, hh, _⟩ := own_slice hown'; cases e; exact hh); obtain ⟨g3, d3', e3, _⟩ := own_some hown' (by omega); injection e3 with e3 _ e4; subst e3 e4; clear hown' hgrow haft)
      go_region
      go_wp2
      go_ret2
      have hB3 := tokOwn_new HB.out HF.out.size F3.out
      exact ⟨g3, d3, rfl, by rw [tcells_app]; exact O3.out, hB3 g3 rfl, ((HF.out.alloc _).grown G3.out (fun y hy => .inr (HB.out y hy))).drew⟩
end Go.Proofs.YtkdgfioigkijgaaGreat.Lz
/- BlockCosts' walk. Conditions: none but what memory bounds. -/
set_option linter.unusedVariables false
set_option linter.unusedSimpArgs false
set_option maxRecDepth 100000
namespace Go.Proofs.YtkdgfioigkijgaaGreat.Blk
open Go.RowKit Go.Proofs.YtkdgfioigkijgaaGreat.Lib Go.Proofs.YtkdgfioigkijgaaGreat.Ints Go.Proofs.YtkdgfioigkijgaaGreat.Lz
theorem face_sl {w : World} {g n d : Nat} {xs : List Value} (h : w.ownsRow 0 77 3 (.slice (some ⟨g, 0, none⟩) n d) n xs) : Sl w (some ⟨g, 0, none⟩) xs (some g) := by
  intro hx
  rcases h.2 with ⟨h', _⟩ | ⟨g', cap, cur, h', hb, hh, hnc, hcm, hcs, ht⟩
  · cases h'
  · injection h' with h1 _ _
    injection h1 with h1
    injection h1 with h1
    subst h1
    refine ⟨g, 0, rfl, rfl, fun j hj => ?_⟩
    rw [Nat.zero_add, blk_cell hh, ← ht, List.getElem?_take, if_pos (by have := h.1; omega)]
    simp
/-- what Cost answers -/
def costA (k bh : Int) (l : List Tok) : Int × Int := if k < 0 ∨ 2 < k ∨ bh < 0 ∨ 7 < bh then (0, 1) else if mayB l = 0 then costK k.toNat bh l else (0, mayB l)
def pickA (bh : Int) (l : List Tok) : Int × Int := if bh < 0 ∨ 7 < bh then (0, 1) else if mayB l = 0 then ((pickF bh l 3).1, 0) else (0, mayB l)
theorem costA_in {k bh : Int} {l : List Tok} (h : ¬ (k < 0 ∨ 2 < k ∨ bh < 0 ∨ 7 < bh)) {m er : Int} (hm : (m, er) = costA k bh l) : if mayB l = 0 then m = (costK k.toNat bh l).1 ∧ er = (costK k.toNat bh l).2 else m = 0 ∧ er = mayB l := by
  unfold costA at hm
  rw [if_neg h] at hm
  split
  · rename_i h0
    rw [if_pos h0] at hm
    rw [← hm]
    exact ⟨rfl, rfl⟩
  · rename_i h0
    rw [if_neg h0] at hm
    injection hm with h1 h2
    exact ⟨h1, h2⟩
theorem cost_all (w : World) (k bh : Int) (A : Option Addr) (n c : Nat) (l : List Tok) (p : Option Nat) (hn : l.length = n) (hS : Sl w A (tcells l) p) (hb : n ≤ 6000000000000) (hl : LitB l) (m er : Int) (hm : (m, er) = costA k bh l) : Calls Tryz.prog 26 #[.int .i64 k, .int .i64 bh, .slice A n c] w fun r w' => r = .returned (.tuple #[.int .i64 m, .int .i64 er]) ∧ Fr w w' [] := by
  by_cases h : k < 0 ∨ 2 < k ∨ bh < 0 ∨ 7 < bh
  · unfold costA at hm
    rw [if_pos h] at hm
    injection hm with h1 h2
    subst h1 h2
    exact cost0_any w k bh A n c h
  · obtain ⟨j, rfl⟩ := Int.eq_ofNat_of_zero_le (show 0 ≤ k by omega)
    exact cost3_any w j (by omega) bh (by omega) (by omega) A n c l p hn hS hb hl m er (costA_in h hm)
theorem rcost_all (w : World) (k bh : Int) (A : Option Addr) (n c : Nat) (l : List Tok) (p : Option Nat) (hn : l.length = n) (hS : Sl w A (tcells l) p) (hpw : ∀ k, p = some k → k < w.heap.size) (hb : n ≤ 6000000000000) (hl : LitB l) (m er : Int) (hm : (m, er) = costA k bh l) : Calls Tryz.prog 27 #[.int .i64 k, .int .i64 bh, .slice A n c] w fun r w' => r = .returned (.tuple #[.int .i64 m, .int .i64 er]) ∧ Fr w w' [] := by
  by_cases h : k < 0 ∨ 2 < k ∨ bh < 0 ∨ 7 < bh
  · unfold costA at hm
    rw [if_pos h] at hm
    injection hm with h1 h2
    subst h1 h2
    exact rcost_no w k bh A n c h
  · obtain ⟨j, rfl⟩ := Int.eq_ofNat_of_zero_le (show 0 ≤ k by omega)
    exact rcost3_any w j (by omega) bh (by omega) (by omega) A n c l p hn hS hpw hb hl m er (costA_in h hm)
theorem pickA_in {bh : Int} {l : List Tok} (h : ¬ (bh < 0 ∨ 7 < bh)) {m er : Int} (hm : (m, er) = pickA bh l) : if mayB l = 0 then m = (pickF bh l 3).1 ∧ er = 0 else m = 0 ∧ er = mayB l := by
  unfold pickA at hm
  rw [if_neg h] at hm
  split
  · rename_i h0
    rw [if_pos h0] at hm
    injection hm with h1 h2
    exact ⟨h1, h2⟩
  · rename_i h0
    rw [if_neg h0] at hm
    injection hm with h1 h2
    exact ⟨h1, h2⟩
theorem pick_all (w : World) (bh : Int) (A : Option Addr) (n c : Nat) (l : List Tok) (p : Option Nat) (hn : l.length = n) (hS : Sl w A (tcells l) p) (hb : n ≤ 6000000000000) (hl : LitB l) (m er : Int) (hm : (m, er) = pickA bh l) : Calls Tryz.prog 28 #[.int .i64 bh, .slice A n c] w fun r w' => r = .returned (.tuple #[.int .i64 m, .int .i64 er]) ∧ Fr w w' [] := by
  by_cases h : bh < 0 ∨ 7 < bh
  · unfold pickA at hm
    rw [if_pos h] at hm
    injection hm with h1 h2
    subst h1 h2
    exact pick0_any w bh A n c h
  · exact pick_any w bh (by omega) (by omega) A n c l p hn hS hb hl m er (pickA_in h hm)
theorem rpick_all (w : World) (bh : Int) (A : Option Addr) (n c : Nat) (l : List Tok) (p : Option Nat) (hn : l.length = n) (hS : Sl w A (tcells l) p) (hpw : ∀ k, p = some k → k < w.heap.size) (hb : n ≤ 6000000000000) (hl : LitB l) (m er : Int) (hm : (m, er) = pickA bh l) : Calls Tryz.prog 29 #[.int .i64 bh, .slice A n c] w fun r w' => r = .returned (.tuple #[.int .i64 m, .int .i64 er]) ∧ Fr w w' [] := by
  by_cases h : bh < 0 ∨ 7 < bh
  · unfold pickA at hm
    rw [if_pos h] at hm
    injection hm with h1 h2
    subst h1 h2
    exact rpick_no w bh A n c h
  · exact rpick_any w bh (by omega) (by omega) A n c l p hn hS hpw hb hl m er (pickA_in h hm)
set_option maxHeartbeats 8000000 in
theorem costs_walk (k bh : Int) (A : Option Addr) (n c : Nat) (l : List Tok) (p : Option Nat) (W : World) (wk : (Lit.int .i64 k).wf = true) (wb : (Lit.int .i64 bh).wf = true) (hn : l.length = n) (hnc : n ≤ c) (hA : A = none → n = 0 ∧ c = 0) (hS : Sl W A (tcells l) p) (hpw : ∀ k, p = some k → k < W.heap.size) (hl : ∀ t ∈ l, 0 ≤ t.lit ∧ t.lit ≤ 255) (hb : n * 24 ≤ 140737488355232) :
    Calls Tryz.prog 4 #[.int .i64 k, .int .i64 bh, .slice A n c] W fun e w' => e = .returned (.bool true) ∧ Below W.heap.size W w' := by
  have HS := Hd.mk hS
  have HL := Hd.mk hl
  have HPW := Hd.mk hpw
  have hb40 : n ≤ 6000000000000 := by omega
  obtain ⟨⟨m, er⟩, hm⟩ : ∃ x, x = costA k bh l := ⟨_, rfl⟩
  obtain ⟨⟨m2, er2⟩, hm2⟩ : ∃ x, x = pickA bh l := ⟨_, rfl⟩
  have HM := Hd.mk hm
  have HM2 := Hd.mk hm2
  clear hS hl hA hm hm2 hpw
  go_enter Tryz.func4, Tryz.ntmps4
  go_wp2_with (fail)
  refine (face_all _ A n c l p hn HS.out hb).mono ?_
  rintro e w1 ⟨g, dw, rfl, h1, h2, h3⟩
  have V1 := Hd.mk (face_sl h1)
  have P1 : Hd (Sl w1 (some ⟨g, 0, none⟩) (tcells l) (some g)) := ⟨by
    have := (face_sl h1).take (tcells l).length
    rw [tcells_app, List.take_left] at this
    exact this⟩
  have F1 := Hd.mk h3
  clear h1 h2 h3
  go_wp2_with (fail)
  refine (cost_all w1 k bh (some ⟨g, 0, none⟩) n dw l (some g) hn P1.out hb40 HL.out m er HM.out).mono ?_
  rintro e w2 ⟨rfl, h3⟩
  have F2 := Hd.mk (F1.out.trans h3 (by simp))
  have P2 := Hd.mk (P1.out.frame h3 (by simp))
  have V2 := Hd.mk (V1.out.frame h3 (by simp))
  clear h3 F1 P1 V1
  go_wp2_with (fail)
  refine (rcost_all w2 k bh A n c l p hn (HS.out.frame F2.out (by simp)) (fun k hk => Nat.lt_of_lt_of_le (HPW.out k hk) F2.out.size) hb40 HL.out m er HM.out).mono ?_
  rintro e w3 ⟨rfl, h3⟩
  have F3 := Hd.mk (F2.out.trans h3 (by simp))
  have P3 := Hd.mk (P2.out.frame h3 (by simp))
  have V3 := Hd.mk (V2.out.frame h3 (by simp))
  clear h3 F2 P2 V2
  go_wp2_with (fail)
  refine (pick_all w3 bh (some ⟨g, 0, none⟩) n dw l (some g) hn P3.out hb40 HL.out m2 er2 HM2.out).mono ?_
  rintro e w4 ⟨rfl, h3⟩
  have F4 := Hd.mk (F3.out.trans h3 (by simp))
  have V4 := Hd.mk (V3.out.frame h3 (by simp))
  clear h3 F3 P3 V3
  go_wp2_with (fail)
  refine (rpick_all w4 bh A n c l p hn (HS.out.frame F4.out (by simp)) (fun k hk => Nat.lt_of_lt_of_le (HPW.out k hk) F4.out.size) hb40 HL.out m2 er2 HM2.out).mono ?_
  rintro e w5 ⟨rfl, h3⟩
  have F5 := Hd.mk (F4.out.trans h3 (by simp))
  have V5 := Hd.mk (V4.out.frame h3 (by simp))
  clear h3 F4 V4
  have e1 : (m == m) = true := by simp
  have e2 : (er == er) = true := by simp
  have e3 : (m2 == m2) = true := by simp
  have e4 : (er2 == er2) = true := by simp
  go_wp2_with (fail)
  refine (bkept_any w5 g dw A n c l p hn V5.out (HS.out.frame F5.out (by simp)) (by omega)).mono ?_
  rintro e w6 ⟨rfl, h3⟩
  have F6 := Hd.mk (F5.out.trans h3 (by simp))
  clear h3 F5 V5
  go_wp2_with (fail)
  refine (blives_any w6).mono ?_
  rintro e w7 ⟨rfl, h3⟩
  have F7 := Hd.mk (F6.out.trans h3 (by simp))
  clear h3 F6
  go_wp2
  go_ret
  exact ⟨rfl, F7.out.below⟩
end Go.Proofs.YtkdgfioigkijgaaGreat.Blk
