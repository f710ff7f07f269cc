import Derived.Test.YtkdgfioigkijgaaGreatW01
import Derived.Test.YtkdgfioigkijgaaGreatW02
import Derived.Test.YtkdgfioigkijgaaGreatW03
import Derived.Test.YtkdgfioigkijgaaGreatW04
import Derived.Test.YtkdgfioigkijgaaGreatW05
import Derived.Test.YtkdgfioigkijgaaGreatW06
import Derived.Test.YtkdgfioigkijgaaGreatW07
import Derived.Test.YtkdgfioigkijgaaGreatW08
import Derived.Test.YtkdgfioigkijgaaGreatW09
import Derived.Test.YtkdgfioigkijgaaGreatW10
import Derived.Test.YtkdgfioigkijgaaGreatW11
import Derived.Test.YtkdgfioigkijgaaGreatW12
import Derived.Test.YtkdgfioigkijgaaGreatW13
import Derived.Test.YtkdgfioigkijgaaGreatW14
import Derived.Test.YtkdgfioigkijgaaGreatW15
import Derived.Test.YtkdgfioigkijgaaGreatW16
import Derived.Test.YtkdgfioigkijgaaGreatW17
import Derived.Test.YtkdgfioigkijgaaGreatW18
import Derived.Test.YtkdgfioigkijgaaGreatW19
import Derived.Test.YtkdgfioigkijgaaGreatW20
import Derived.Test.YtkdgfioigkijgaaGreatW21
import Derived.Test.YtkdgfioigkijgaaGreatW22
import Derived.Test.YtkdgfioigkijgaaGreatW23
import Derived.BigRegion
import Derived.BigQuiet
import Derived.Deep.QuietTactic
import Derived.Deep.LoopGhost
import Derived.Deep.DeepCutAuto
import Derived.KernelRfl
import Derived.Deep.RegionLaw
import Derived.Outline
set_option linter.unusedVariables false
set_option linter.unusedSimpArgs false
set_option maxRecDepth 100000
namespace Go.Proofs.YtkdgfioigkijgaaGreat.Blk
open Go.RowKit Go.Proofs.YtkdgfioigkijgaaGreat.Lib Go.Proofs.YtkdgfioigkijgaaGreat.Ints Go.Proofs.YtkdgfioigkijgaaGreat.Lz Go.Proofs.YtkdgfioigkijgaaGreat.Num Go.Proofs.YtkdgfioigkijgaaGreat.Bits
theorem made_bools {n : Nat} (h : n ≤ 7) : (madeCells (Value.bool false).cells (n * 1)).toList = bools 0 n := by
  simp only [madeCells, bools, Value.cells, Nat.mul_one, List.size_toArray, List.length_cons, List.length_nil]
  simp
  intro x _
  simp [Nat.mod_one]
theorem made_u8 (n : Nat) : (madeCells (Value.int .u8 0).cells (n * 1)).toList = u8s (List.replicate n 0) := by
  simp [madeCells, u8s, Value.cells]
  apply List.eq_replicate_iff.2
  refine ⟨by simp, fun b hb => ?_⟩
  simp only [List.mem_map] at hb
  obtain ⟨a, _, rfl⟩ := hb
  simp [Nat.mod_one]
theorem ret_two {a b c : Int} (h : a = b) : Ending.returned (.tuple #[.int .i64 a, .int .i64 c]) = .returned (.tuple #[.int .i64 b, .int .i64 c]) := by rw [h]
set_option maxHeartbeats 8000000 in
theorem rcost0 (w : World) (bh : Int) (h0 : 0 ≤ bh) (h7 : bh ≤ 7) (A : Option Addr) (n c : Nat) (l : List Tok) (p : Option Nat) (hn : l.length = n) (hS : Sl w A (tcells l) p) (hpw : ∀ k, p = some k → k < w.heap.size) (hb : n ≤ 6000000000000) (hl : LitB l) (m er : Int) (hm : if mayB l = 0 then m = (costK 0 bh l).1 ∧ er = (costK 0 bh l).2 else m = 0 ∧ er = mayB l) :
    Calls Tryz.prog 27 #[.int .i64 0, .int .i64 bh, .slice A n c] w fun r w' => r = .returned (.tuple #[.int .i64 m, .int .i64 er]) ∧ Fr w w' [] := by
  obtain ⟨i0, hi0, hz0, hz1, hz2⟩ := info_parts Bits.infoBool
  obtain ⟨j0, hj0, jz0, jz1, jz2⟩ := info_parts Bits.infoU8
  have HS := Hd.mk hS
  have HPW := Hd.mk hpw
  have HL := Hd.mk hl
  obtain ⟨e, he⟩ : ∃ e, e = mayB l := ⟨_, rfl⟩
  rw [← he] at hm
  have HE := Hd.mk he
  have HM := Hd.mk hm
  obtain ⟨bn, rfl⟩ := Int.eq_ofNat_of_zero_le h0
  have hbn : bn ≤ 7 := by omega
  clear hS hl hm he hpw
  go_enter Tryz.func27, Tryz.ntmps27
  go_wp2_with (refine wpList_make_full _ rfl _ _ 28 rfl 0 4 i0 (.bool false) 1 Tryz.underlying28 hi0 hz0 hz1 .i64 .i64 _ _ bn rfl rfl (by omega) (by omega) (by rw [hz2]; omega) (by unfold maxLen; omega) (Nat.zero_le _) ?_; intro w1 hown1 hgrow1; rw [made_bools hbn] at hown1; have O1 := Hd.mk hown1; have G1 := Hd.mk hgrow1; clear hown1 hgrow1)
  have A2 := (Fr.refl w1 []).alloc (.cells #[.slice (some ⟨w.heap.size, 0, none⟩) bn bn] 30)
  have T2 : Hd (RW (w1.alloc (.cells #[.slice (some ⟨w.heap.size, 0, none⟩) bn bn] 30)) w1.heap.size 0 bn (some w.heap.size)) := ⟨⟨_, _, blk_new w1 _, own_frame O1.out A2 (by simp), rfl, Nat.two_pow_pos _⟩⟩
  have F2 : Hd (Fr w (w1.alloc (.cells #[.slice (some ⟨w.heap.size, 0, none⟩) bn bn] 30)) []) := ⟨((Fr.refl w []).grown G1.out (by simp)).trans A2 (by simp)⟩
  have NG : Hd (w.heap.size ≤ w1.heap.size) := ⟨G1.out.size⟩
  clear A2 O1 G1
  generalize w1.alloc (.cells #[.slice (some ⟨w.heap.size, 0, none⟩) bn bn] 30) = w2 at *
  generalize w1.heap.size = gw at *
  refine (rmay_any w2 A n c l p hn (HS.out.frame F2.out (by simp)) hb e HE.out).mono ?_
  rintro r w3 ⟨rfl, h3⟩
  have T3 := Hd.mk (T2.out.frame h3 (by simp) (by simp))
  have F3 := Hd.mk (F2.out.trans h3 (by simp))
  clear h3 T2 F2
  by_cases h : e = 0
  · have hmm : Hd (m = (costK 0 (bn : Nat) l).1 ∧ er = (costK 0 (bn : Nat) l).2) := ⟨by have := HM.out; rw [if_pos h] at this; exact this⟩
    subst h
    have hz := mayB_zero HE.out.symm
    have HZ := Hd.mk hz.2
    have hz1 := hz.1
    have hsl := Lz.sizeOf_le l
    obtain ⟨s, hs⟩ : ∃ s, s = Lz.sizeOf l := ⟨_, rfl⟩
    rw [← hs] at hsl
    have HSZ := Hd.mk hs
    clear hz hs HM
    go_wp2_with (fail)
    refine (rsize_any w3 A n c l p hn (HS.out.frame F3.out (by simp)) (by omega)).mono ?_
    rintro r w4 ⟨rfl, h4⟩
    rw [← HSZ.out]
    have T4 := Hd.mk (T3.out.frame h4 (by simp) (by simp))
    have F4 := Hd.mk (F3.out.trans h4 (by simp))
    clear h4 T3 F3
    by_cases hbig : 65535 < s
    · have hc : costK 0 (bn : Nat) l = (0, 90) := by unfold costK; rw [if_pos rfl, if_pos (by rw [← HSZ.out]; exact hbig)]
      obtain ⟨e1, e2⟩ := hmm.out
      rw [hc] at e1 e2
      simp only at e1 e2
      subst e1 e2
      have hbI : (65535 : Int) < (s : Nat) := by omega
      clear hc hmm
      go_wp2
      go_ret2
      exact ⟨rfl, F4.out⟩
    · have hbI : ¬ (65535 : Int) < (s : Nat) := by omega
      have HC0 : Hd ((costK 0 (bn : Nat) l).2 = 0) := ⟨by unfold costK; rw [if_pos rfl, if_neg (by rw [← HSZ.out]; exact hbig)]⟩
      have HW0 : Hd ((0 : Int) = wrErr 0 (List.replicate s (0 : Int)).length l) := ⟨by unfold wrErr; rw [if_neg (by omega), if_neg (by rw [← HE.out]; simp), if_neg (fun h => hbig (by rw [HSZ.out]; exact h.2)), if_neg (by rw [List.length_replicate, HSZ.out]; simp)]⟩
      go_wp2_with (fail)
      refine (rsize_any w4 A n c l p hn (HS.out.frame F4.out (by simp)) (by omega)).mono ?_
      rintro r w5 ⟨rfl, h5⟩
      rw [← HSZ.out]
      have T5 := Hd.mk (T4.out.frame h5 (by simp) (by simp))
      have F5 := Hd.mk (F4.out.trans h5 (by simp))
      clear h5 T4 F4
      go_wp2_with (refine wpList_make_full _ rfl _ _ 23 rfl 0 5 j0 (.int .u8 0) 1 Tryz.underlying23 hj0 jz0 jz1 .i64 .i64 _ _ s rfl rfl (by omega) (by omega) (by rw [jz2]; omega) (by unfold maxLen; omega) (Nat.zero_le _) ?_; intro w6 hown6 hgrow6; rw [made_u8] at hown6; have O6 := Hd.mk hown6; have G6 := Hd.mk hgrow6; clear hown6 hgrow6)
      have f6 : Fr w5 w6 [] := (Fr.refl w5 []).grown G6.out (by simp)
      have T6 := Hd.mk (T5.out.frame f6 (by simp) (by simp))
      have F6 := Hd.mk (F5.out.trans f6 (by simp))
      have hgd : gw < w5.heap.size ∧ w.heap.size < w5.heap.size := ⟨T5.out.lt.1, T5.out.lt.2 _ rfl⟩
      have HGD := Hd.mk hgd
      clear f6 T5 F5 G6 hgd
      have hcall := rbwrite0 w6 false (some ⟨w5.heap.size, 0, none⟩) s (List.replicate s 0) (some w5.heap.size) (sl_of_own O6.out) (fun x hx => by have := List.eq_of_mem_replicate hx; omega) (by rw [List.length_replicate]; omega) A n c l p hn (HS.out.frame F6.out (by simp)) (by omega) HL.out gw 0 bn (some w.heap.size) T6.out (fun k hk => ⟨fun hm => by
        have h1 := HPW.out k hk
        have h2 := NG.out
        simp at hm
        omega, Nat.lt_of_lt_of_le (HPW.out k hk) F6.out.size⟩) (fun k hk => ⟨fun hm => by
        cases hk
        have h2 := HGD.out
        simp at hm
        omega, by cases hk; exact own_lt O6.out rfl⟩) (by omega) 0 HW0.out
      rw [List.length_replicate] at hcall
      refine hcall.mono ?_
      rintro r w7 ⟨rfl, hp7⟩
      obtain ⟨q7, h7⟩ := hp7.1 rfl
      obtain ⟨T, hT⟩ : ∃ T, T = totOf (blockP 0 bn false (List.replicate s 0) l) := ⟨_, rfl⟩
      have hbits := blockP_bits (k := 0) (m := bn) (b := false) (data := List.replicate s 0) (by decide) HE.out.symm HL.out (by rw [List.length_replicate, HSZ.out]) (by rw [Nat.mod_eq_of_lt (by omega)]; exact HC0.out)
      rw [Nat.mod_eq_of_lt (show bn < 8 by omega), ← hT] at hbits
      obtain ⟨e1, e2⟩ := hmm.out
      rw [HC0.out] at e2
      rw [← hbits] at e1
      subst e1 e2
      obtain ⟨Ax, cx, hxb, _⟩ := h7.rw_
      rw [← hT] at hxb
      have x0 := blk_cell hxb 0
      simp only [List.getElem?_toArray, List.getElem?_cons_zero] at x0
      have FF : Hd (Fr w w7 []) := ⟨F6.out.trans h7.fr (fun x hx hm => by simp at hm; have := NG.out; omega)⟩
      have hle := costK_le (bh := (bn : Nat)) (by omega) (by omega) HE.out.symm HL.out 0
      have hT2 : (T : Int) ≤ 4503599627370496 := by rw [hbits]; exact hle.2.1
      clear hmm hcall hp7 h7 hT hbits hxb hle
      go_wp2
      go_ret2
      exact ⟨ret_two (by omega), FF.out⟩
  · have hne : (e != 0) = true := by simpa using h
    obtain ⟨e1, e2⟩ := (show m = 0 ∧ er = e by have := HM.out; rw [if_neg h] at this; exact this)
    subst e1 e2
    clear h HM
    go_wp2
    go_ret2
    exact ⟨rfl, F3.out⟩
set_option maxHeartbeats 8000000 in
theorem rcost1 (w : World) (bh : Int) (h0 : 0 ≤ bh) (h7 : bh ≤ 7) (A : Option Addr) (n c : Nat) (l : List Tok) (p : Option Nat) (hn : l.length = n) (hS : Sl w A (tcells l) p) (hpw : ∀ k, p = some k → k < w.heap.size) (hb : n ≤ 6000000000000) (hl : LitB l) (m er : Int) (hm : if mayB l = 0 then m = (costK 1 bh l).1 ∧ er = (costK 1 bh l).2 else m = 0 ∧ er = mayB l) :
    Calls Tryz.prog 27 #[.int .i64 1, .int .i64 bh, .slice A n c] w fun r w' => r = .returned (.tuple #[.int .i64 m, .int .i64 er]) ∧ Fr w w' [] := by
  obtain ⟨i0, hi0, hz0, hz1, hz2⟩ := info_parts Bits.infoBool
  obtain ⟨j0, hj0, jz0, jz1, jz2⟩ := info_parts Bits.infoU8
  have HS := Hd.mk hS
  have HPW := Hd.mk hpw
  have HL := Hd.mk hl
  obtain ⟨e, he⟩ : ∃ e, e = mayB l := ⟨_, rfl⟩
  rw [← he] at hm
  have HE := Hd.mk he
  have HM := Hd.mk hm
  obtain ⟨bn, rfl⟩ := Int.eq_ofNat_of_zero_le h0
  have hbn : bn ≤ 7 := by omega
  clear hS hl hm he hpw
  go_enter Tryz.func27, Tryz.ntmps27
  go_wp2_with (refine wpList_make_full _ rfl _ _ 28 rfl 0 4 i0 (.bool false) 1 Tryz.underlying28 hi0 hz0 hz1 .i64 .i64 _ _ bn rfl rfl (by omega) (by omega) (by rw [hz2]; omega) (by unfold maxLen; omega) (Nat.zero_le _) ?_; intro w1 hown1 hgrow1; rw [made_bools hbn] at hown1; have O1 := Hd.mk hown1; have G1 := Hd.mk hgrow1; clear hown1 hgrow1)
  have A2 := (Fr.refl w1 []).alloc (.cells #[.slice (some ⟨w.heap.size, 0, none⟩) bn bn] 30)
  have T2 : Hd (RW (w1.alloc (.cells #[.slice (some ⟨w.heap.size, 0, none⟩) bn bn] 30)) w1.heap.size 0 bn (some w.heap.size)) := ⟨⟨_, _, blk_new w1 _, own_frame O1.out A2 (by simp), rfl, Nat.two_pow_pos _⟩⟩
  have F2 : Hd (Fr w (w1.alloc (.cells #[.slice (some ⟨w.heap.size, 0, none⟩) bn bn] 30)) []) := ⟨((Fr.refl w []).grown G1.out (by simp)).trans A2 (by simp)⟩
  have NG : Hd (w.heap.size ≤ w1.heap.size) := ⟨G1.out.size⟩
  clear A2 O1 G1
  generalize w1.alloc (.cells #[.slice (some ⟨w.heap.size, 0, none⟩) bn bn] 30) = w2 at *
  generalize w1.heap.size = gw at *
  refine (rmay_any w2 A n c l p hn (HS.out.frame F2.out (by simp)) hb e HE.out).mono ?_
  rintro r w3 ⟨rfl, h3⟩
  have T3 := Hd.mk (T2.out.frame h3 (by simp) (by simp))
  have F3 := Hd.mk (F2.out.trans h3 (by simp))
  clear h3 T2 F2
  by_cases h : e = 0
  · have hmm : Hd (m = (costK 1 (bn : Nat) l).1 ∧ er = (costK 1 (bn : Nat) l).2) := ⟨by have := HM.out; rw [if_pos h] at this; exact this⟩
    subst h
    have hz := mayB_zero HE.out.symm
    have HZ := Hd.mk hz.2
    have hz1 := hz.1
    have hsl := Lz.sizeOf_le l
    obtain ⟨s, hs⟩ : ∃ s, s = Lz.sizeOf l := ⟨_, rfl⟩
    rw [← hs] at hsl
    have HSZ := Hd.mk hs
    clear hz hs HM
    have HC0 : Hd ((costK 1 (bn : Nat) l).2 = 0) := ⟨by unfold costK; rfl⟩
    have HW0 : Hd ((0 : Int) = wrErr 1 (List.replicate s (0 : Int)).length l) := ⟨by unfold wrErr; rw [if_neg (by omega), if_neg (by rw [← HE.out]; simp), if_neg (fun h => absurd h.1 (by decide)), if_neg (by rw [List.length_replicate, HSZ.out]; simp)]⟩
    go_wp2_with (fail)
    refine (rsize_any w3 A n c l p hn (HS.out.frame F3.out (by simp)) (by omega)).mono ?_
    rintro r w5 ⟨rfl, h5⟩
    rw [← HSZ.out]
    have T5 := Hd.mk (T3.out.frame h5 (by simp) (by simp))
    have F5 := Hd.mk (F3.out.trans h5 (by simp))
    clear h5 T3 F3
    go_wp2_with (refine wpList_make_full _ rfl _ _ 23 rfl 0 5 j0 (.int .u8 0) 1 Tryz.underlying23 hj0 jz0 jz1 .i64 .i64 _ _ s rfl rfl (by omega) (by omega) (by rw [jz2]; omega) (by unfold maxLen; omega) (Nat.zero_le _) ?_; intro w6 hown6 hgrow6; rw [made_u8] at hown6; have O6 := Hd.mk hown6; have G6 := Hd.mk hgrow6; clear hown6 hgrow6)
    have f6 : Fr w5 w6 [] := (Fr.refl w5 []).grown G6.out (by simp)
    have T6 := Hd.mk (T5.out.frame f6 (by simp) (by simp))
    have F6 := Hd.mk (F5.out.trans f6 (by simp))
    have hgd : gw < w5.heap.size ∧ w.heap.size < w5.heap.size := ⟨T5.out.lt.1, T5.out.lt.2 _ rfl⟩
    have HGD := Hd.mk hgd
    clear f6 T5 F5 G6 hgd
    have hcall := rbwrite1 w6 false (some ⟨w5.heap.size, 0, none⟩) s (List.replicate s 0) (some w5.heap.size) (sl_of_own O6.out) (fun x hx => by have := List.eq_of_mem_replicate hx; omega) (by rw [List.length_replicate]; omega) A n c l p hn (HS.out.frame F6.out (by simp)) (by omega) HL.out gw 0 bn (some w.heap.size) T6.out (fun k hk => ⟨fun hm => by
      have h1 := HPW.out k hk
      have h2 := NG.out
      simp at hm
      omega, Nat.lt_of_lt_of_le (HPW.out k hk) F6.out.size⟩) (fun k hk => ⟨fun hm => by
      cases hk
      have h2 := HGD.out
      simp at hm
      omega, by cases hk; exact own_lt O6.out rfl⟩) (by omega) 0 HW0.out
    rw [List.length_replicate] at hcall
    refine hcall.mono ?_
    rintro r w7 ⟨rfl, hp7⟩
    obtain ⟨q7, h7⟩ := hp7.1 rfl
    obtain ⟨T, hT⟩ : ∃ T, T = totOf (blockP 1 bn false (List.replicate s 0) l) := ⟨_, rfl⟩
    have hbits := blockP_bits (k := 1) (m := bn) (b := false) (data := List.replicate s 0) (by decide) HE.out.symm HL.out (by rw [List.length_replicate, HSZ.out]) (by rw [Nat.mod_eq_of_lt (by omega)]; exact HC0.out)
    rw [Nat.mod_eq_of_lt (show bn < 8 by omega), ← hT] at hbits
    obtain ⟨e1, e2⟩ := hmm.out
    rw [HC0.out] at e2
    rw [← hbits] at e1
    subst e1 e2
    obtain ⟨Ax, cx, hxb, _⟩ := h7.rw_
    rw [← hT] at hxb
    have x0 := blk_cell hxb 0
    simp only [List.getElem?_toArray, List.getElem?_cons_zero] at x0
    have FF : Hd (Fr w w7 []) := ⟨F6.out.trans h7.fr (fun x hx hm => by simp at hm; have := NG.out; omega)⟩
    have hle := costK_le (bh := (bn : Nat)) (by omega) (by omega) HE.out.symm HL.out 1
    have hT2 : (T : Int) ≤ 4503599627370496 := by rw [hbits]; exact hle.2.1
    clear hmm hcall hp7 h7 hT hbits hxb hle
    go_wp2
    go_ret2
    exact ⟨ret_two (by omega), FF.out⟩
  · have hne : (e != 0) = true := by simpa using h
    obtain ⟨e1, e2⟩ := (show m = 0 ∧ er = e by have := HM.out; rw [if_neg h] at this; exact this)
    subst e1 e2
    clear h HM
    go_wp2
    go_ret2
    exact ⟨rfl, F3.out⟩
set_option maxHeartbeats 8000000 in
theorem rcost2 (w : World) (bh : Int) (h0 : 0 ≤ bh) (h7 : bh ≤ 7) (A : Option Addr) (n c : Nat) (l : List Tok) (p : Option Nat) (hn : l.length = n) (hS : Sl w A (tcells l) p) (hpw : ∀ k, p = some k → k < w.heap.size) (hb : n ≤ 6000000000000) (hl : LitB l) (m er : Int) (hm : if mayB l = 0 then m = (costK 2 bh l).1 ∧ er = (costK 2 bh l).2 else m = 0 ∧ er = mayB l) :
    Calls Tryz.prog 27 #[.int .i64 2, .int .i64 bh, .slice A n c] w fun r w' => r = .returned (.tuple #[.int .i64 m, .int .i64 er]) ∧ Fr w w' [] := by
  obtain ⟨i0, hi0, hz0, hz1, hz2⟩ := info_parts Bits.infoBool
  obtain ⟨j0, hj0, jz0, jz1, jz2⟩ := info_parts Bits.infoU8
  have HS := Hd.mk hS
  have HPW := Hd.mk hpw
  have HL := Hd.mk hl
  obtain ⟨e, he⟩ : ∃ e, e = mayB l := ⟨_, rfl⟩
  rw [← he] at hm
  have HE := Hd.mk he
  have HM := Hd.mk hm
  obtain ⟨bn, rfl⟩ := Int.eq_ofNat_of_zero_le h0
  have hbn : bn ≤ 7 := by omega
  clear hS hl hm he hpw
  go_enter Tryz.func27, Tryz.ntmps27
  go_wp2_with (refine wpList_make_full _ rfl _ _ 28 rfl 0 4 i0 (.bool false) 1 Tryz.underlying28 hi0 hz0 hz1 .i64 .i64 _ _ bn rfl rfl (by omega) (by omega) (by rw [hz2]; omega) (by unfold maxLen; omega) (Nat.zero_le _) ?_; intro w1 hown1 hgrow1; rw [made_bools hbn] at hown1; have O1 := Hd.mk hown1; have G1 := Hd.mk hgrow1; clear hown1 hgrow1)
  have A2 := (Fr.refl w1 []).alloc (.cells #[.slice (some ⟨w.heap.size, 0, none⟩) bn bn] 30)
  have T2 : Hd (RW (w1.alloc (.cells #[.slice (some ⟨w.heap.size, 0, none⟩) bn bn] 30)) w1.heap.size 0 bn (some w.heap.size)) := ⟨⟨_, _, blk_new w1 _, own_frame O1.out A2 (by simp), rfl, Nat.two_pow_pos _⟩⟩
  have F2 : Hd (Fr w (w1.alloc (.cells #[.slice (some ⟨w.heap.size, 0, none⟩) bn bn] 30)) []) := ⟨((Fr.refl w []).grown G1.out (by simp)).trans A2 (by simp)⟩
  have NG : Hd (w.heap.size ≤ w1.heap.size) := ⟨G1.out.size⟩
  clear A2 O1 G1
  generalize w1.alloc (.cells #[.slice (some ⟨w.heap.size, 0, none⟩) bn bn] 30) = w2 at *
  generalize w1.heap.size = gw at *
  refine (rmay_any w2 A n c l p hn (HS.out.frame F2.out (by simp)) hb e HE.out).mono ?_
  rintro r w3 ⟨rfl, h3⟩
  have T3 := Hd.mk (T2.out.frame h3 (by simp) (by simp))
  have F3 := Hd.mk (F2.out.trans h3 (by simp))
  clear h3 T2 F2
  by_cases h : e = 0
  · have hmm : Hd (m = (costK 2 (bn : Nat) l).1 ∧ er = (costK 2 (bn : Nat) l).2) := ⟨by have := HM.out; rw [if_pos h] at this; exact this⟩
    subst h
    have hz := mayB_zero HE.out.symm
    have HZ := Hd.mk hz.2
    have hz1 := hz.1
    have hsl := Lz.sizeOf_le l
    obtain ⟨s, hs⟩ : ∃ s, s = Lz.sizeOf l := ⟨_, rfl⟩
    rw [← hs] at hsl
    have HSZ := Hd.mk hs
    clear hz hs HM
    have HC0 : Hd ((costK 2 (bn : Nat) l).2 = 0) := ⟨by unfold costK; rfl⟩
    have HW0 : Hd ((0 : Int) = wrErr 2 (List.replicate s (0 : Int)).length l) := ⟨by unfold wrErr; rw [if_neg (by omega), if_neg (by rw [← HE.out]; simp), if_neg (fun h => absurd h.1 (by decide)), if_neg (by rw [List.length_replicate, HSZ.out]; simp)]⟩
    go_wp2_with (fail)
    refine (rsize_any w3 A n c l p hn (HS.out.frame F3.out (by simp)) (by omega)).mono ?_
    rintro r w5 ⟨rfl, h5⟩
    rw [← HSZ.out]
    have T5 := Hd.mk (T3.out.frame h5 (by simp) (by simp))
    have F5 := Hd.mk (F3.out.trans h5 (by simp))
    clear h5 T3 F3
    go_wp2_with (refine wpList_make_full _ rfl _ _ 23 rfl 0 5 j0 (.int .u8 0) 1 Tryz.underlying23 hj0 jz0 jz1 .i64 .i64 _ _ s rfl rfl (by omega) (by omega) (by rw [jz2]; omega) (by unfold maxLen; omega) (Nat.zero_le _) ?_; intro w6 hown6 hgrow6; rw [made_u8] at hown6; have O6 := Hd.mk hown6; have G6 := Hd.mk hgrow6; clear hown6 hgrow6)
    have f6 : Fr w5 w6 [] := (Fr.refl w5 []).grown G6.out (by simp)
    have T6 := Hd.mk (T5.out.frame f6 (by simp) (by simp))
    have F6 := Hd.mk (F5.out.trans f6 (by simp))
    have hgd : gw < w5.heap.size ∧ w.heap.size < w5.heap.size := ⟨T5.out.lt.1, T5.out.lt.2 _ rfl⟩
    have HGD := Hd.mk hgd
    clear f6 T5 F5 G6 hgd
    have hcall := rbwrite2 w6 false (some ⟨w5.heap.size, 0, none⟩) s (List.replicate s 0) (some w5.heap.size) (sl_of_own O6.out) (fun x hx => by have := List.eq_of_mem_replicate hx; omega) (by rw [List.length_replicate]; omega) A n c l p hn (HS.out.frame F6.out (by simp)) (by omega) HL.out gw 0 bn (some w.heap.size) T6.out (fun k hk => ⟨fun hm => by
      have h1 := HPW.out k hk
      have h2 := NG.out
      simp at hm
      omega, Nat.lt_of_lt_of_le (HPW.out k hk) F6.out.size⟩) (fun k hk => ⟨fun hm => by
      cases hk
      have h2 := HGD.out
      simp at hm
      omega, by cases hk; exact own_lt O6.out rfl⟩) (by omega) 0 HW0.out
    rw [List.length_replicate] at hcall
    refine hcall.mono ?_
    rintro r w7 ⟨rfl, hp7⟩
    obtain ⟨q7, h7⟩ := hp7.1 rfl
    obtain ⟨T, hT⟩ : ∃ T, T = totOf (blockP 2 bn false (List.replicate s 0) l) := ⟨_, rfl⟩
    have hbits := blockP_bits (k := 2) (m := bn) (b := false) (data := List.replicate s 0) (by decide) HE.out.symm HL.out (by rw [List.length_replicate, HSZ.out]) (by rw [Nat.mod_eq_of_lt (by omega)]; exact HC0.out)
    rw [Nat.mod_eq_of_lt (show bn < 8 by omega), ← hT] at hbits
    obtain ⟨e1, e2⟩ := hmm.out
    rw [HC0.out] at e2
    rw [← hbits] at e1
    subst e1 e2
    obtain ⟨Ax, cx, hxb, _⟩ := h7.rw_
    rw [← hT] at hxb
    have x0 := blk_cell hxb 0
    simp only [List.getElem?_toArray, List.getElem?_cons_zero] at x0
    have FF : Hd (Fr w w7 []) := ⟨F6.out.trans h7.fr (fun x hx hm => by simp at hm; have := NG.out; omega)⟩
    have hle := costK_le (bh := (bn : Nat)) (by omega) (by omega) HE.out.symm HL.out 2
    have hT2 : (T : Int) ≤ 4503599627370496 := by rw [hbits]; exact hle.2.1
    clear hmm hcall hp7 h7 hT hbits hxb hle
    go_wp2
    go_ret2
    exact ⟨ret_two (by omega), FF.out⟩
  · have hne : (e != 0) = true := by simpa using h
    obtain ⟨e1, e2⟩ := (show m = 0 ∧ er = e by have := HM.out; rw [if_neg h] at this; exact this)
    subst e1 e2
    clear h HM
    go_wp2
    go_ret2
    exact ⟨rfl, F3.out⟩
theorem rcost3_any (w : World) (k : Nat) (hk : k < 3) (bh : Int) (h0 : 0 ≤ bh) (h7 : bh ≤ 7) (A : Option Addr) (n c : Nat) (l : List Tok) (p : Option Nat) (hn : l.length = n) (hS : Sl w A (tcells l) p) (hpw : ∀ k, p = some k → k < w.heap.size) (hb : n ≤ 6000000000000) (hl : LitB l) (m er : Int) (hm : if mayB l = 0 then m = (costK k bh l).1 ∧ er = (costK k bh l).2 else m = 0 ∧ er = mayB l) :
    Calls Tryz.prog 27 #[.int .i64 (k : Nat), .int .i64 bh, .slice A n c] w fun r w' => r = .returned (.tuple #[.int .i64 m, .int .i64 er]) ∧ Fr w w' [] := by
  have hc : k = 0 ∨ k = 1 ∨ k = 2 := by omega
  rcases hc with rfl | rfl | rfl
  · exact rcost0 w bh h0 h7 A n c l p hn hS hpw hb hl m er hm
  · exact rcost1 w bh h0 h7 A n c l p hn hS hpw hb hl m er hm
  · exact rcost2 w bh h0 h7 A n c l p hn hS hpw hb hl m er hm
def pickR (bh : Int) (l : List Tok) : Nat → Int × Int
  | 0 => (-1, 0)
  | k + 1 => if (costK k bh l).2 = 0 ∧ ((pickR bh l k).1 < 0 ∨ (costK k bh l).1 < (pickR bh l k).2) then ((k : Int), (costK k bh l).1) else pickR bh l k
theorem pickR_F {bh : Int} (h0 : 0 ≤ bh) (h7 : bh ≤ 7) {l : List Tok} (h : mayB l = 0) (hl : LitB l) : ∀ k, ((pickR bh l k = (-1, 0) ∧ pickF bh l k = (1, -1)) ∨ (0 ≤ (pickR bh l k).1 ∧ 0 ≤ (pickR bh l k).2 ∧ pickR bh l k = pickF bh l k))
  | 0 => .inl ⟨rfl, rfl⟩
  | k + 1 => by
    have hc := costK_le h0 h7 h hl k
    rw [pickR, pickF]
    rcases pickR_F h0 h7 h hl k with ⟨h1, h2⟩ | ⟨h1, h2, h3⟩
    · rw [h1, h2]
      by_cases he : (costK k bh l).2 = 0
      · rw [if_pos ⟨he, .inl (by decide)⟩, if_pos ⟨he, .inl (by decide)⟩]
        exact .inr ⟨by simp, by have := hc.2.2 he; simp only; omega, rfl⟩
      · rw [if_neg (fun x => he x.1), if_neg (fun x => he x.1)]
        exact .inl ⟨rfl, rfl⟩
    · rw [← h3]
      by_cases hx : (costK k bh l).2 = 0 ∧ (costK k bh l).1 < (pickR bh l k).2
      · rw [if_pos ⟨hx.1, .inr hx.2⟩, if_pos ⟨hx.1, .inr hx.2⟩]
        exact .inr ⟨by simp, by have := hc.2.2 hx.1; simp only; omega, rfl⟩
      · rw [if_neg (fun x => hx ⟨x.1, x.2.resolve_left (by omega)⟩), if_neg (fun x => hx ⟨x.1, x.2.resolve_left (by omega)⟩)]
        exact .inr ⟨h1, h2, rfl⟩
theorem pickR_three {bh : Int} (h0 : 0 ≤ bh) (h7 : bh ≤ 7) {l : List Tok} (h : mayB l = 0) (hl : LitB l) : (pickR bh l 3).1 = (pickF bh l 3).1 := by
  rcases pickR_F h0 h7 h hl 3 with ⟨h1, h2⟩ | ⟨_, _, h3⟩
  · have := (pickF_best h0 h7 h hl 3 (Nat.le_refl _)).1 1 (by decide) rfl
    rw [h2] at this
    simp at this
  · rw [h3]
theorem pickR_le {bh : Int} (h0 : 0 ≤ bh) (h7 : bh ≤ 7) {l : List Tok} (h : mayB l = 0) (hl : LitB l) (k : Nat) (hk : k ≤ 3) : -1 ≤ (pickR bh l k).1 ∧ (pickR bh l k).1 ≤ 2 ∧ 0 ≤ (pickR bh l k).2 ∧ (pickR bh l k).2 ≤ 4503599627370496 := by
  have hp := pickF_le h0 h7 h hl k hk
  rcases pickR_F h0 h7 h hl k with ⟨h1, h2⟩ | ⟨h1, h2, h3⟩
  · rw [h1]; simp only; omega
  · rw [h3] at h1 h2 ⊢; omega
set_option maxHeartbeats 8000000 in
theorem rpick_any (w : World) (bh : Int) (h0 : 0 ≤ bh) (h7 : bh ≤ 7) (A : Option Addr) (n c : Nat) (l : List Tok) (p : Option Nat) (hn : l.length = n) (hS : Sl w A (tcells l) p) (hpw : ∀ k, p = some k → k < w.heap.size) (hb : n ≤ 6000000000000) (hl : LitB l) (m er : Int) (hm : if mayB l = 0 then m = (pickF bh l 3).1 ∧ er = 0 else m = 0 ∧ er = mayB l) :
    Calls Tryz.prog 29 #[.int .i64 bh, .slice A n c] w fun r w' => r = .returned (.tuple #[.int .i64 m, .int .i64 er]) ∧ Fr w w' [] := by
  have HS := Hd.mk hS
  have HPW := Hd.mk hpw
  have HL := Hd.mk hl
  obtain ⟨e, he⟩ : ∃ e, e = mayB l := ⟨_, rfl⟩
  rw [← he] at hm
  have HE := Hd.mk he
  have HM := Hd.mk hm
  clear hS hl hm he hpw
  go_enter Tryz.func29, Tryz.ntmps29
  go_wp2_with (fail)
  refine (rmay_any w A n c l p hn HS.out hb e HE.out).mono ?_
  rintro r w1 ⟨rfl, h1⟩
  have F1 := Hd.mk h1
  clear h1
  by_cases h : e = 0
  · subst h
    have hmm : Hd (m = (pickR bh l 3).1 ∧ er = 0) := ⟨by have := HM.out; rw [if_pos rfl] at this; rw [pickR_three h0 h7 HE.out.symm HL.out]; exact this⟩
    obtain rfl : er = 0 := hmm.out.2
    have hz := mayB_zero HE.out.symm
    have hz1 := hz.1
    have HB := Hd.mk (And.intro (fun k => costK_le h0 h7 HE.out.symm HL.out k) (fun k hk => pickR_le h0 h7 HE.out.symm HL.out k hk))
    clear hz HM
    go_wp2
    go_loopg [7, 8, 9] 3 (fun kq bv lv jv wr => ∃ (j : Nat) (b s : Int), bv = .int .i64 b ∧ lv = .int .i64 s ∧ jv = .int .i64 (j : Nat) ∧ j + kq = 3 ∧ Hd ((b, s) = pickR bh l j) ∧ Hd (Fr w wr []))
    case atStart => exact ⟨0, -1, 0, rfl, rfl, rfl, by omega, ⟨rfl⟩, F1⟩
    case round =>
      obtain ⟨j, b, s, rfl, rfl, rfl, hj, HP, HF⟩ := hrel
      by_cases hj3 : j < 3
      · have hcl := HB.out.1 j
        have hpl := HB.out.2 j (by omega)
        rw [← HP.out] at hpl
        simp only at hpl
        obtain ⟨⟨cm, ce⟩, hc⟩ : ∃ x, x = costK j bh l := ⟨_, rfl⟩
        rw [← hc] at hcl
        simp only at hcl
        have HC := Hd.mk hc
        have HNX : Hd (pickR bh l (j + 1) = if ce = 0 ∧ (b < 0 ∨ cm < s) then ((j : Int), cm) else (b, s)) := ⟨by rw [pickR, ← hc, ← HP.out]⟩
        have hj2 : (j : Int) ≤ 2 := by omega
        have hcl1 := hcl.1
        have hcl2 := hcl.2.1
        clear hc hcl HP
        go_wp2_with (fail)
        refine (rcost3_any wr j hj3 bh h0 h7 A n c l p hn (HS.out.frame HF.out (by simp)) (fun k hk => Nat.lt_of_lt_of_le (HPW.out k hk) HF.out.size) hb HL.out cm ce (by rw [← HE.out, if_pos rfl, ← HC.out]; exact ⟨rfl, rfl⟩)).mono ?_
        rintro r w2 ⟨rfl, h2⟩
        have F2 := Hd.mk (HF.out.trans h2 (by simp))
        clear h2 HF
        by_cases hce : ce = 0
        · subst hce
          by_cases hb0 : b < 0
          · have HN2 : Hd (pickR bh l (j + 1) = ((j : Int), cm)) := ⟨by rw [HNX.out, if_pos ⟨rfl, .inl hb0⟩]⟩
            have hd1 : decide (b < 0) = true := by simpa using hb0
            clear HNX
            go_wp2
            go_roundg (gk - 1)
            case measure => omega
            case rel => exact ⟨j + 1, (j : Int), cm, rfl, rfl, by go_num, by omega, ⟨HN2.out.symm⟩, F2⟩
          · have hd1 : decide (b < 0) = false := by simpa using hb0
            by_cases hcs : cm < s
            · have HN2 : Hd (pickR bh l (j + 1) = ((j : Int), cm)) := ⟨by rw [HNX.out, if_pos ⟨rfl, .inr hcs⟩]⟩
              have hd2 : decide (cm < s) = true := by simpa using hcs
              clear HNX
              go_wp2
              go_roundg (gk - 1)
              case measure => omega
              case rel => exact ⟨j + 1, (j : Int), cm, rfl, rfl, by go_num, by omega, ⟨HN2.out.symm⟩, F2⟩
            · have HN2 : Hd (pickR bh l (j + 1) = (b, s)) := ⟨by rw [HNX.out, if_neg (fun x => x.2.elim hb0 hcs)]⟩
              have hd2 : decide (cm < s) = false := by simpa using hcs
              clear HNX
              go_wp2
              go_roundg (gk - 1)
              case measure => omega
              case rel => exact ⟨j + 1, b, s, rfl, rfl, by go_num, by omega, ⟨HN2.out.symm⟩, F2⟩
        · have HN2 : Hd (pickR bh l (j + 1) = (b, s)) := ⟨by rw [HNX.out, if_neg (fun x => hce x.1)]⟩
          have hd2 : (ce == 0) = false := by simpa using hce
          clear HNX
          go_wp2
          go_roundg (gk - 1)
          case measure => omega
          case rel => exact ⟨j + 1, b, s, rfl, rfl, by go_num, by omega, ⟨HN2.out.symm⟩, F2⟩
      · obtain rfl : j = 3 := by omega
        obtain rfl : m = b := by rw [hmm.out.1, ← HP.out]
        clear hmm
        go_wp2
        go_ret2
        exact ⟨rfl, HF.out⟩
  · have hne : (e != 0) = true := by simpa using h
    obtain ⟨e1, e2⟩ := (show m = 0 ∧ er = e by have := HM.out; rw [if_neg h] at this; exact this)
    subst e1 e2
    clear h HM
    go_wp2
    go_ret2
    exact ⟨rfl, F1.out⟩
end Go.Proofs.YtkdgfioigkijgaaGreat.Blk
set_option linter.unusedVariables false
set_option linter.unusedSimpArgs false
set_option maxRecDepth 100000
namespace Go.Proofs.YtkdgfioigkijgaaGreat.Blk
open Go.RowKit Go.Proofs.YtkdgfioigkijgaaGreat.Lib Go.Proofs.YtkdgfioigkijgaaGreat.Ints Go.Proofs.YtkdgfioigkijgaaGreat.Num Go.Proofs.YtkdgfioigkijgaaGreat.Bits Go.Proofs.YtkdgfioigkijgaaGreat.Code
structure Hs (W w : World) (gw N m : Nat) (q : Option Nat) (gx N' m' : Nat) (p : Option Nat) : Prop where
  tl : Tl w gw 27 N m q
  rw_ : RW w gx N' m' p
  fr : Fr W w []
  new : W.heap.size ≤ gw ∧ W.heap.size ≤ gx ∧ (∀ y, q = some y → W.heap.size ≤ y) ∧ (∀ y, p = some y → W.heap.size ≤ y)
section
variable {W w w' : World} {gw N m gx N' m' N2 m2 : Nat} {q p q2 : Option Nat}
theorem Hs.call (h : Hs W w gw N m q gx N' m' p) (hf : Fr w w' []) : Hs W w' gw N m q gx N' m' p :=
  ⟨h.tl.frame hf (by simp) (by simp), h.rw_.frame hf (by simp) (by simp), h.fr.trans hf (by simp), h.new⟩
theorem Hs.tl1 (h : Hs W w gw N m q gx N' m' p) (ht : Tl w' gw 27 N2 m2 q2) (ha : Aft w q q2) (hf : Fr w w' (gw :: q.toList)) : Hs W w' gw N2 m2 q2 gx N' m' p := by
  obtain ⟨A, c, hxb, hxo, hxp, hxN⟩ := h.rw_
  refine ⟨ht, h.rw_.frame hf (tl_not h.tl hxb (by decide) (by decide)) (fun k hk => ?_), h.fr.trans hf (fun x hx hm => ?_), h.new.1, h.new.2.1, fun y hy => ?_, h.new.2.2.2⟩
  · rw [← hxp] at hk
    obtain ⟨cs, hcs⟩ := own_type hxo hk
    exact tl_not h.tl hcs (by decide) (by decide)
  · rcases List.mem_cons.1 hm with e | hm
    · have := h.new.1; omega
    · have := h.new.2.2.1 x (by simpa using hm); omega
  · rcases ha with e | ⟨z, e, hz⟩
    · rw [e] at hy; exact h.new.2.2.1 y hy
    · rw [e] at hy; cases hy
      have := h.fr.size
      omega
theorem Hs.pw (h : Hs W w gw N m q gx N' m' p) {P : List (Nat × Nat)} (hp : Pw w w' gw q q2 N m P) : Hs W w' gw (N + numOf P * 2 ^ m) (m + totOf P) q2 gx N' m' p := h.tl1 hp.tl hp.aft hp.fr
end
end Go.Proofs.YtkdgfioigkijgaaGreat.Blk
set_option linter.unusedVariables false
set_option linter.unusedSimpArgs false
set_option maxRecDepth 100000
namespace Go.Proofs.YtkdgfioigkijgaaGreat.Blk
open Go.RowKit Go.Proofs.YtkdgfioigkijgaaGreat.Lib Go.Proofs.YtkdgfioigkijgaaGreat.Ints Go.Proofs.YtkdgfioigkijgaaGreat.Lz Go.Proofs.YtkdgfioigkijgaaGreat.Num Go.Proofs.YtkdgfioigkijgaaGreat.Bits
theorem rbwrite_no (w : World) (k : Int) (hk : k < 0 ∨ 2 < k) (b : Bool) (D A : Option Addr) (nd cd n c gw : Nat) :
    Calls Tryz.prog 18 #[.pointer (some ⟨gw, 0, none⟩), .int .i64 k, .bool b, .slice D nd cd, .slice A n c] w fun e w' => e = .returned (.int .i64 1) ∧ w = w' := by
  go_enter Tryz.func18, Tryz.ntmps18
  by_cases h1 : k < 0
  · clear hk
    go_wp2
    go_ret
    exact ⟨rfl, rfl⟩
  · have h2 : 2 < k := by omega
    clear hk
    go_wp2
    go_ret
    exact ⟨rfl, rfl⟩
theorem wrErr_no {k : Int} (h : k < 0 ∨ 2 < k) (nd : Nat) (l : List Tok) : wrErr k nd l = 1 := by unfold wrErr; rw [if_pos h]
theorem rbwrite_all (w : World) (k : Int) (b : Bool) (D : Option Addr) (nd cd : Nat) (data : List Int) (pd : Option Nat) (hD : SlArg w D nd cd (u8s data) pd) (hnd2 : nd ≤ 17592186044416) (hby : ∀ x ∈ data, 0 ≤ x ∧ x ≤ 255)
    (A : Option Addr) (n c : Nat) (l : List Tok) (p : Option Nat) (hn : l.length = n) (hS : Sl w A (tcells l) p) (hb : n ≤ 1048576) (hl : LitB l)
    (gw N m : Nat) (q : Option Nat) (hT : RW w gw N m q) (hp : ∀ k, p = some k → k ∉ gw :: q.toList ∧ k < w.heap.size) (hpd : ∀ k, pd = some k → k ∉ gw :: q.toList ∧ k < w.heap.size) (hm : m ≤ 35184372080000) (er : Int) (he : er = wrErr k data.length l) :
    Calls Tryz.prog 18 #[.pointer (some ⟨gw, 0, none⟩), .int .i64 k, .bool b, .slice D nd cd, .slice A n c] w fun e w' => e = .returned (.int .i64 er) ∧ RwPost w w' gw N m q er (blockP k.toNat m b data l) := by
  have hnd : data.length = nd := by have := hD.len; simpa [u8s] using this
  by_cases hk : k < 0 ∨ 2 < k
  · rw [wrErr_no hk] at he
    subst he
    refine (rbwrite_no w k hk b D A nd cd n c gw).mono ?_
    rintro e w1 ⟨rfl, rfl⟩
    exact ⟨rfl, (fun h => by cases h), fun _ => Fr.refl _ _⟩
  · obtain ⟨j, rfl⟩ := Int.eq_ofNat_of_zero_le (show 0 ≤ k by omega)
    subst hnd
    have hc : j = 0 ∨ j = 1 ∨ j = 2 := by omega
    rcases hc with rfl | rfl | rfl
    · exact rbwrite0 w b D cd data pd hD.sl hby hnd2 A n c l p hn hS hb hl gw N m q hT hp hpd hm er he
    · exact rbwrite1 w b D cd data pd hD.sl hby hnd2 A n c l p hn hS hb hl gw N m q hT hp hpd hm er he
    · exact rbwrite2 w b D cd data pd hD.sl hby hnd2 A n c l p hn hS hb hl gw N m q hT hp hpd hm er he
end Go.Proofs.YtkdgfioigkijgaaGreat.Blk
set_option linter.unusedVariables false
set_option linter.unusedSimpArgs false
set_option maxRecDepth 100000
namespace Go.Proofs.YtkdgfioigkijgaaGreat.Prs
open Go.RowKit Go.Proofs.YtkdgfioigkijgaaGreat.Lib Go.Proofs.YtkdgfioigkijgaaGreat.Ints Go.Proofs.YtkdgfioigkijgaaGreat.Lz Go.Proofs.YtkdgfioigkijgaaGreat.Num Go.Proofs.YtkdgfioigkijgaaGreat.Bits Go.Proofs.YtkdgfioigkijgaaGreat.Blk
theorem infoRPart : (Tryz.prog.info? 157).map (fun i => (i.zero, i.size, i.bytes)) = some (some (.agg #[.int .i64 0, .int .i64 0, .int .i64 0, .int .i64 0]), 4, 32) := by kernel_rfl
theorem infoRTokQ : (Tryz.prog.info? 80).map (fun i => (i.zero, i.size, i.bytes)) = some (some (.agg #[.int .u8 0, .int .i64 0, .int .i64 0]), 3, 24) := by kernel_rfl
theorem pown_newq {wo w : World} {q q' : Option Nat} (hB : ∀ x, q = some x → wo.heap.size ≤ x) (hs : wo.heap.size ≤ w.heap.size) {o : Obj} (h : Aft (w.alloc o) q q') : ∀ y, q' = some y → wo.heap.size ≤ y := by
  intro y hy
  rcases h with e | ⟨z, e, hz⟩
  · exact hB y (e ▸ hy)
  · rw [e] at hy
    cases hy
    rw [World.size_alloc] at hz
    omega
def RwnPost (w w' : World) (l : List Tok) (d : List Int) (most J : Nat) (v u : Value) : Prop :=
  w'.ownsRow 0 5 1 v ((btN l most J + 7) / 8) (u8s (bytesOf (numOf (PBx l d most (List.range J))) (btN l most J))) ∧ (∀ k, v.ownBlock = some k → w.heap.size ≤ k) ∧ w'.ownsRow 0 157 4 u J ((List.range J).flatMap (partC l most)) ∧ (∀ k, u.ownBlock = some k → w.heap.size ≤ k) ∧ Fr w w' []
set_option maxHeartbeats 16000000 in
theorem rwritten_any (w : World) (c cd most : Nat) (A D : Option Addr) (l : List Tok) (d : List Int) (p pd : Option Nat) (hA : Sl w A (tcells l) p) (hc : l.length ≤ c) (hcm : c ≤ maxLen) (hAn : A = none → l.length = 0 ∧ c = 0) (hD : Sl w D (u8s d) pd) (hdc : d.length ≤ cd) (hcd : cd ≤ maxLen) (hDn : D = none → d.length = 0 ∧ cd = 0)
    (hpw : ∀ b, b ∈ p.toList ++ pd.toList → b < w.heap.size) (hby : ∀ x ∈ d, 0 ≤ x ∧ x ≤ 255) (hr : ∀ t ∈ l, right t = true) (hl : LitB l) (hs : Lz.sizeOf l = d.length) (hm1 : 1 ≤ most) (hm2 : most ≤ 65536) (hT : l.length ≤ 1048576) (hd : d.length ≤ 1048576) :
    Calls Tryz.prog 65 #[.slice D d.length cd, .slice A l.length c, .int .i64 (most : Nat)] w fun e w' => ∃ (J : Nat) (v u : Value), 1 ≤ J ∧ l.length ≤ J * most ∧ (J = 1 ∨ (J - 1) * most < l.length) ∧ e = .returned (.tuple #[v, u]) ∧ RwnPost w w' l d most J v u := by
  obtain ⟨i0, hi0, iz0, iz1, iz2⟩ := info_parts infoU8
  obtain ⟨i1, hi1, jz0, jz1, jz2⟩ := info_parts infoRTokQ
  obtain ⟨i2, hi2, kz0, kz1, kz2⟩ := info_parts infoRPart
  have HSA := Hd.mk hA
  have HSD := Hd.mk hD
  have HPW := Hd.mk hpw
  have HR := Hd.mk (And.intro hr hl)
  have HBY := Hd.mk hby
  have HSZ := Hd.mk hs
  have HAN := Hd.mk hAn
  have HDN := Hd.mk hDn
  clear hA hD hpw hr hl hby hs hAn hDn
  go_enter Tryz.func65, Tryz.ntmps65
  go_upto_region 2 with (fail)
  have T2 := Hd.mk (rw_new w)
  have F2 := Hd.mk ((Fr.refl w []).alloc (.cells #[.slice none 0 0] 30))
  obtain ⟨gw, hgw⟩ : ∃ g, g = w.heap.size := ⟨_, rfl⟩
  rw [← hgw] at T2 ⊢
  have NW : Hd (w.heap.size ≤ gw) := ⟨by omega⟩
  clear hgw
  generalize w.alloc (.cells #[.slice none 0 0] 30) = w2 at *
  go_wp2
  go_loopg [0, 9, 10] (l.length + 1) (fun kq dv pv av wr => ∃ (j : Nat) (Ap : Option Addr) (cp : Nat) (q : Option Nat), dv = .slice (dA D cd l most j) (d.length - posN l most j) (cd - posN l most j) ∧ pv = .slice Ap j cp ∧ av = .int .i64 (atN l.length most j : Nat) ∧ kq = l.length - atN l.length most j + (if j = 0 then 1 else 0) ∧ Hd (j = 0 ∨ j = 1 ∨ (j - 1) * most < l.length) ∧ Hd (wr.ownsRow 0 157 4 (.slice Ap j cp) j ((List.range j).flatMap (partC l most))) ∧ Hd (∀ y, (Value.slice Ap j cp).ownBlock = some y → w.heap.size ≤ y) ∧ Hd (RW wr gw (numOf (PBx l d most (List.range j))) (btN l most j) q) ∧ Hd (∀ y, q = some y → w.heap.size ≤ y) ∧ Hd (Fr w wr []))
  case atStart => exact ⟨0, none, 0, none, by rw [pos_zero]; rfl, rfl, by rw [at_zero]; rfl, by rw [at_zero]; rfl, ⟨.inl rfl⟩, ⟨own_nil _ _ _ _⟩, ⟨by intro y hy; cases hy⟩, ⟨T2.out⟩, ⟨by intro y hy; cases hy⟩, F2⟩
  case round =>
    clear T2 F2
    obtain ⟨j, Ap, cp, q, rfl, rfl, rfl, hk, HJ, HPO, HPN, HRW, HQN, HF⟩ := hrel
    have hat := at_le l.length most j
    have hpo := pos_le l most j
    rw [HSZ.out] at hpo
    have hjb : j ≤ l.length + 1 := by
      rcases HJ.out with h | h | h
      · omega
      · omega
      · have h3 : (j - 1) * 1 ≤ (j - 1) * most := Nat.mul_le_mul_left _ hm1
        omega
    by_cases hv : j = 0 ∨ atN l.length most j < l.length
    · have ATS := Hd.mk (at_succ l.length most j)
      have POS := Hd.mk (pos_succ l most j)
      have BTS : Hd (btN l most (j + 1) = btN l most j + csN (btN l most j) (tks l most j)) := ⟨rfl⟩
      have DAS : Hd (dA D cd l most (j + 1) = cutA (dA D cd l most j) (cd - posN l most j) (szN l most j) 1) := ⟨rfl⟩
      have hpo2 := pos_le l most (j + 1)
      rw [HSZ.out, POS.out] at hpo2
      have hln : lenN l.length most j = min (l.length - atN l.length most j) most := rfl
      have hlt := tks_len l most j
      have hmay := tks_may HR.out.1 hm2 j
      have hlit := tks_lit HR.out.2 most j
      have hps := pick_some (m := btN l most j) hmay hlit
      have hbt := bt_le HR.out.1 HR.out.2 hm2 j
      obtain ⟨hk3, hdl, hwe, _, _⟩ := piece_ok (d := d) HR.out.1 HR.out.2 HSZ.out hm2 j
      have SDL : Hd (Sl w (dA D cd l most j) (u8s (d.drop (posN l most j))) pd) := ⟨dA_sl (most := most) HSD.out hdc HSZ.out j⟩
      have SLT : Hd (Sl w (cutA A c (atN l.length most j) 3) (tcells (tks l most j)) p) := ⟨sl_take3 (Sl.cutn (enc := tcell) (sz := 3) (fun _ => rfl) (n := l.length) (c := c) (k := atN l.length most j) HSA.out rfl hc hat (by decide))⟩
      have DN := Hd.mk (dA_none (l := l) (most := most) HDN.out j)
      have PCV : Hd (partC l most j = [.int .i64 (kdN (btN l most j) (tks l most j) : Nat), .int .i64 (lenN l.length most j : Nat), .int .i64 (szN l most j : Nat), .int .i64 (csN (btN l most j) (tks l most j) : Nat)]) := ⟨rfl⟩
      have SZD : Hd (szN l most j = Lz.sizeOf (tks l most j)) := ⟨rfl⟩
      have PBS : Hd (PBx l d most (List.range (j + 1)) = PBx l d most (List.range j) ++ blockP (kdN (btN l most j) (tks l most j)) (btN l most j) (decide (atN l.length most j + lenN l.length most j = l.length)) ((d.drop (posN l most j)).take (szN l most j)) (tks l most j)) := ⟨by
        rw [List.range_succ, PBx_snoc, PBx_tot HR.out.1 HR.out.2 HSZ.out hm2 j]
        rfl⟩
      have PTO := Hd.mk (PBx_tot HR.out.1 HR.out.2 HSZ.out hm2 (j + 1))
      have PT0 := Hd.mk (PBx_tot HR.out.1 HR.out.2 HSZ.out hm2 j)
      have hsl : (tks l most j).length ≤ most := by rw [hlt, hln]; exact Nat.min_le_right _ _
      have RS : Hd ((List.range (j + 1)).flatMap (partC l most) = (List.range j).flatMap (partC l most) ++ partC l most j) := ⟨by rw [List.range_succ, List.flatMap_append, List.flatMap_singleton]⟩
      have HATN : Hd (j = 0 ∨ j * most < l.length) := ⟨by
        rcases hv with h | h
        · exact .inl h
        · right
          unfold atN at h
          omega⟩
      have hdt : (d.drop (posN l most j)).length = d.length - posN l most j := List.length_drop
      obtain ⟨dd, hdd⟩ : ∃ x, x = (d.drop (posN l most j)).take (szN l most j) := ⟨_, rfl⟩
      obtain ⟨at0, hat0⟩ : ∃ x, x = atN l.length most j := ⟨_, rfl⟩
      obtain ⟨ln, hln0⟩ : ∃ x, x = lenN l.length most j := ⟨_, rfl⟩
      obtain ⟨ps, hps0⟩ : ∃ x, x = posN l most j := ⟨_, rfl⟩
      obtain ⟨sz, hsz0⟩ : ∃ x, x = szN l most j := ⟨_, rfl⟩
      obtain ⟨bt, hbt0⟩ : ∃ x, x = btN l most j := ⟨_, rfl⟩
      obtain ⟨da, hda⟩ : ∃ x, x = dA D cd l most j := ⟨_, rfl⟩
      obtain ⟨s, hs⟩ : ∃ x, x = tks l most j := ⟨_, rfl⟩
      have SDD : Hd (Sl w da (u8s dd) pd) := ⟨by rw [hdd, u8s_take, hda]; exact SDL.out.take _⟩
      have HBD : Hd (∀ x ∈ dd, 0 ≤ x ∧ x ≤ 255) := ⟨fun x hx => HBY.out x (List.mem_of_mem_drop (List.mem_of_mem_take (hdd ▸ hx)))⟩
      rw [← hdd] at PBS hdl
      rw [← hat0, ← hln0] at ATS PBS
      rw [← hat0] at hat hv hbt SLT hk hln ⊢
      rw [← hln0] at PCV hln hlt
      rw [← hps0] at POS DAS hpo hpo2 ⊢
      rw [← hsz0] at POS DAS PCV SZD hpo2 hdl hwe
      rw [← hbt0] at BTS PCV hps hbt PBS hk3 hwe PT0 HRW
      rw [← hda] at DAS DN ⊢
      rw [← hs] at BTS PCV hlt hmay hlit hps SZD hsl SLT PBS hk3 hwe
      clear hat0 hln0 hps0 hsz0 hbt0 hda hs hdd hdt SDL
      have hln1 : ln ≤ l.length - at0 := by rw [hln]; exact Nat.min_le_left _ _
      have hln2 : ln ≤ most := by rw [hln]; exact Nat.min_le_right _ _
      obtain ⟨hk3', hce, hpe, hcc, hcb⟩ := hps
      obtain ⟨kd, hkd⟩ : ∃ x, x = kdN bt s := ⟨_, rfl⟩
      obtain ⟨cs, hcs⟩ : ∃ x, x = csN bt s := ⟨_, rfl⟩
      rw [← hkd] at hk3 hce hpe hcc PCV hwe PBS
      rw [← hcs] at hcc hcb PCV BTS
      have HWE := Hd.mk hwe
      have HCE := Hd.mk hce
      have HPE := Hd.mk hpe
      have HCC := Hd.mk hcc
      have HMAY := Hd.mk hmay
      have HLIT := Hd.mk hlit
      have HDL := Hd.mk hdl
      have HLT := Hd.mk hlt
      clear hkd hcs hwe hce hpe hcc hmay hlit hdl hk3'
      go_upto_region 4 with (fail)
      go_cut [27] from 19 to 27 (fun s27 wd => s27 = .bool true ∧ wr = wd)
      case first =>
        by_cases hj0 : j = 0
        · subst hj0
          go_wp2
          go_meet
          case rel => exact ⟨rfl, rfl⟩
        · have hj1 : (((j : Nat) : Int) == 0) = false := by simp; omega
          have hlI : ((at0 : Nat) : Int) < (l.length : Nat) := by rcases hv with h | h <;> omega
          go_wp2
          go_meet
          case rel => exact ⟨rfl, rfl⟩
      case rest =>
      obtain ⟨rfl, rfl⟩ := hcut
      go_upto_if 34 with (fail)
      go_cut [11] from 34 to 35 (fun s11 wd => s11 = .int .i64 (ln : Nat) ∧ wr = wd)
      case first =>
        by_cases hg : most < l.length - at0
        · have hgI : ((l.length - at0 : Nat) : Int) > (most : Nat) := by omega
          obtain rfl : ln = most := by rw [hln]; omega
          clear hln
          go_wp2
          go_meet
          case rel => exact ⟨rfl, rfl⟩
        · have hgI : ¬ ((l.length - at0 : Nat) : Int) > (most : Nat) := by omega
          have hln3 : Hd (ln = l.length - at0) := ⟨by rw [hln]; omega⟩
          clear hln
          go_wp2
          go_meet
          case rel => exact ⟨by rw [hln3.out]; congr 1; omega, rfl⟩
      case rest =>
      obtain ⟨rfl, rfl⟩ := hcut
      have HLN1 : Hd (at0 < l.length → 1 ≤ ln) := ⟨fun h => by rw [hln]; omega⟩
      clear hln
      have hq1 := run_cut_mid (P := Tryz.prog) 35 80 .i64 .i64 Tryz.underlying35 hi1 3 jz1 A l.length c at0 (at0 + ln) (by omega) (by omega)
      rw [show at0 + ln - at0 = ln from by omega, Int.natCast_add] at hq1
      go_upto_region 9 with (fail)
      obtain ⟨ta, hta⟩ : ∃ x, x = cutA A c at0 3 := ⟨_, rfl⟩
      rw [← hta] at SLT ⊢
      have PLT : Hd (∀ k, p = some k → k < w.heap.size) := ⟨fun k hk => HPW.out k (by simp [hk])⟩
      have PDLT : Hd (∀ k, pd = some k → k < w.heap.size) := ⟨fun k hk => HPW.out k (by simp [hk])⟩
      clear hta hq1
      go_wp2_with (fail)
      refine (rsize_any wr ta ln (c - at0) s p HLT.out (SLT.out.frame HF.out (by simp)) (by omega)).mono ?_
      rintro e w3 ⟨rfl, h3⟩
      rw [← SZD.out]
      have F3 := Hd.mk (HF.out.trans h3 (by simp))
      have R3 := Hd.mk (HRW.out.frame h3 (by simp) (by simp))
      have P3 := Hd.mk (own_frame HPO.out h3 (by simp))
      clear h3 HF HRW HPO
      obtain ⟨Aw, cw, hbw, _, _, _⟩ := R3.out
      have k0 := blk_cell hbw 0
      simp only [List.getElem?_toArray, List.getElem?_cons_zero] at k0
      obtain ⟨bm, hbm⟩ : ∃ x, x = ((bt % 8 : Nat) : Int) := ⟨_, rfl⟩
      have hbe : (bt : Int) % 8 = bm := by rw [hbm]; omega
      have hbe2 : (bt : Int).tmod 8 = bm := by rw [hbm, Int.tmod_eq_emod_of_nonneg (by omega)]; omega
      have hb0 : 0 ≤ bm := by omega
      have hb7 : bm ≤ 7 := by omega
      have HCE2 : Hd ((costK kd bm s).2 = 0) := ⟨by rw [hbm]; exact HCE.out⟩
      have HPE2 : Hd ((Blk.pickF bm s 3).1 = (kd : Nat)) := ⟨by rw [hbm]; exact HPE.out⟩
      have HCC2 : Hd ((costK kd bm s).1 = (cs : Nat)) := ⟨by rw [hbm]; exact HCC.out⟩
      clear hbm HCE HPE HCC hbw
      have hlnb : ln ≤ 6000000000000 := by omega
      go_wp2_with (fail)
      try rw [hbe]
      refine (rpick_any w3 bm hb0 hb7 ta ln (c - at0) s p HLT.out (SLT.out.frame F3.out (by simp)) (fun k hk => Nat.lt_of_lt_of_le (PLT.out k hk) F3.out.size) hlnb HLIT.out (kd : Nat) 0 (by rw [if_pos HMAY.out]; exact ⟨HPE2.out.symm, rfl⟩)).mono ?_
      rintro e w4 ⟨rfl, h3⟩
      have F4 := Hd.mk (F3.out.trans h3 (by simp))
      have R4 := Hd.mk (R3.out.frame h3 (by simp) (by simp))
      have P4 := Hd.mk (own_frame P3.out h3 (by simp))
      clear h3 F3 R3 P3 k0
      go_wp2_with (fail)
      try rw [hbe]
      refine (rcost3_any w4 kd hk3 bm hb0 hb7 ta ln (c - at0) s p HLT.out (SLT.out.frame F4.out (by simp)) (fun k hk => Nat.lt_of_lt_of_le (PLT.out k hk) F4.out.size) hlnb HLIT.out (cs : Nat) 0 (by rw [if_pos HMAY.out]; exact ⟨HCC2.out.symm, HCE2.out.symm⟩)).mono ?_
      rintro e w5 ⟨rfl, h3⟩
      have F5 := Hd.mk (F4.out.trans h3 (by simp))
      have R5 := Hd.mk (R4.out.frame h3 (by simp) (by simp))
      have P5 := Hd.mk (own_frame P4.out h3 (by simp))
      clear h3 F4 R4 P4
      have hda0 : da = none → cd - ps = 0 := fun h => by have := DN.out h; omega
      have hq2 := Lens.run_cut_to (P := Tryz.prog) 23 5 .i64 Tryz.underlying23 hi0 1 iz1 da (d.length - ps) (cd - ps) sz hda0 (by omega)
      obtain ⟨lb, hlb⟩ : ∃ x, x = decide (at0 + ln = l.length) := ⟨_, rfl⟩
      have hlbe : (((at0 : Nat) : Int) + ((ln : Nat) : Int) == ((l.length : Nat) : Int)) = lb := by rw [hlb, Bool.eq_iff_iff]; simp; omega
      rw [← hlb] at PBS
      clear hlb
      have SDA : Hd (SlArg w5 da sz (cd - ps) (u8s dd) pd) := ⟨⟨by simp [u8s, HDL.out], by omega, by omega, fun h => ⟨by have := hda0 h; omega, hda0 h⟩, SDD.out.frame F5.out (by simp), fun k hk => Nat.lt_of_lt_of_le (PDLT.out k hk) F5.out.size⟩⟩
      have hgq : ∀ k, k < w.heap.size → k ∉ gw :: q.toList := fun k hk hm => by
        rcases List.mem_cons.1 hm with e | hm
        · have := NW.out; omega
        · have := HQN.out k (by simpa using hm); omega
      have HGQ := Hd.mk hgq
      clear hgq hda0
      go_wp2_with (fail)
      refine (rbwrite_all w5 (kd : Nat) lb da sz (cd - ps) dd pd SDA.out (by omega) HBD.out ta ln (c - at0) s p HLT.out (SLT.out.frame F5.out (by simp)) (by omega) HLIT.out gw _ bt q R5.out (fun k hk => ⟨HGQ.out k (PLT.out k hk), Nat.lt_of_lt_of_le (PLT.out k hk) F5.out.size⟩) (fun k hk => ⟨HGQ.out k (PDLT.out k hk), Nat.lt_of_lt_of_le (PDLT.out k hk) F5.out.size⟩) (by omega) 0 (by rw [HDL.out]; exact HWE.out.symm)).mono ?_
      rintro e w6 ⟨rfl, hP⟩
      obtain ⟨q', hP⟩ := hP.1 rfl
      rw [Int.toNat_natCast] at hP
      have P6 := Hd.mk (own_frame P5.out hP.fr (fun k hk => Blk.rw_notown2 R5.out P5.out (by decide) (by decide) hk))
      have F6 := Hd.mk (F5.out.trans hP.fr (fun x hx hm => absurd hm (HGQ.out x hx)))
      have R6 := Hd.mk hP.rw_
      have Q6 : Hd (∀ y, q' = some y → w.heap.size ≤ y) := ⟨fun y hy => by
        rcases hP.aft with e | ⟨z, e, hz⟩
        · rw [e] at hy; exact HQN.out y hy
        · rw [e] at hy; cases hy; have := F5.out.size; omega⟩
      clear hP F5 R5 P5 HQN HGQ SDA hq2
      have hq3 := run_cut_from (P := Tryz.prog) 23 5 .i64 Tryz.underlying23 hi0 1 iz1 da (d.length - ps) (cd - ps) sz (by omega)
      go_wp2_with (at_builtin; refine wpList_append_sl rfl (.tmp 73) (.tmp 79) 87 rfl 157 i2 (.agg #[.int .i64 0, .int .i64 0, .int .i64 0, .int .i64 0]) 4 32 Tryz.underlying87 hi2 kz0 kz1 kz2 rfl (by decide) (.slice Ap j cp) j _ rfl (by exact P6.out.alloc _) (some ⟨w6.heap.size, 0, none⟩) 1 1 [.int .i64 (kd : Nat), .int .i64 (ln : Nat), .int .i64 (sz : Nat), .int .i64 (cs : Nat)] (some w6.heap.size) rfl rfl (by exact sl_of_blk (blk_new _ _)) (by intro h; cases h) (by intro u hu; simp at hu; rcases hu with rfl | rfl | rfl | rfl <;> rfl) (by unfold maxLen; omega) (by omega) ?_; intro A8 c8 w8 hown8 hgrow8 haft8; have O8 := Hd.mk hown8; have G8 := Hd.mk hgrow8; have AF8 := Hd.mk haft8; clear hown8 hgrow8 haft8)
      have F8 : Hd (Fr w6 w8 (Value.slice Ap j cp).ownBlock.toList) := ⟨((Fr.refl w6 _).alloc _).grown G8.out (fun k hk => .inl (by simp [hk]))⟩
      have R8 : Hd (RW w8 gw (numOf (PBx l d most (List.range (j + 1)))) (btN l most (j + 1)) q') := ⟨by
        have hto := PTO.out
        rw [PBS.out, totOf_app, PT0.out, BTS.out] at hto
        have hc : totOf (blockP kd bt lb dd s) = cs := by omega
        have h := R6.out
        rw [hc] at h
        rw [PBS.out, numOf_app, PT0.out, BTS.out]
        obtain ⟨Aw, cw, hbw, hown, hqe, hN⟩ := h
        have hn1 : gw ∉ (Value.slice Ap j cp).ownBlock.toList := fun hm => own_ne P6.out hbw (by decide) (by simpa using hm)
        refine ⟨Aw, cw, F8.out.blk hbw hn1, own_frame hown F8.out (fun k hk hm => ?_), hqe, hN⟩
        obtain ⟨cs2, hc2⟩ := own_type hown hk
        exact own_ne P6.out hc2 (by decide) (by simpa using hm)⟩
      go_roundg (l.length - (at0 + ln))
      case measure =>
        have h1 := HLN1.out
        rw [hk]
        split
        · omega
        · rename_i hj0
          have h2 := h1 (by rcases hv with h | h; exact absurd h hj0; exact h)
          omega
      case rel =>
        refine ⟨j + 1, A8, c8, q', ?_, rfl, ?_, ?_, ⟨?_⟩, ⟨?_⟩, ⟨pown_newq HPN.out F6.out.size AF8.out⟩, R8, Q6, ⟨F6.out.trans F8.out (fun x hx hm => absurd (HPN.out x (by simpa using hm)) (by omega))⟩⟩
        · rw [DAS.out, POS.out, Nat.sub_sub, Nat.sub_sub]
        · rw [ATS.out]; rfl
        · rw [ATS.out]; simp
        · rcases HATN.out with h | h
          · right; left; omega
          · right; right; simpa using h
        · rw [RS.out, PCV.out]
          exact O8.out
    · have hj0 : j ≠ 0 := fun h => hv (.inl h)
      have hatE : atN l.length most j = l.length := by
        by_cases h : atN l.length most j < l.length
        · exact absurd (.inr h) hv
        · omega
      have hJl : l.length ≤ j * most := by unfold atN at hatE; omega
      have hJ3 : j = 1 ∨ (j - 1) * most < l.length := by rcases HJ.out with h | h | h; exact absurd h hj0; exact .inl h; exact .inr h
      have hbt := bt_le HR.out.1 HR.out.2 hm2 j
      have HJJ := Hd.mk hJ3
      have HJL := Hd.mk hJl
      have hj1 : (((j : Nat) : Int) == 0) = false := by simp; omega
      have hltI : ¬ ((atN l.length most j : Nat) : Int) < (l.length : Nat) := by omega
      have hj1n : 1 ≤ j := by omega
      clear hJ3 hJl hatE hv HJ
      generalize atN l.length most j = at0 at *
      go_upto_region 17 with (fail)
      go_wp2_with (fail)
      refine (wbytes_any wr (by omega) HRW.out).mono ?_
      rintro e w3 ⟨v, rfl, h1, h2, h3⟩
      have V3 := Hd.mk h1
      have NV := Hd.mk (fun k hk => Nat.le_trans HF.out.size (h2 k hk))
      have P3 := Hd.mk (own_frame HPO.out h3 (by simp))
      have F3 := Hd.mk (HF.out.trans h3 (by simp))
      clear h1 h2 h3
      go_wp2
      (try simp only [Exit.inBlock, Exit.then])
      refine bodyPost_ret (results_tmp2 rfl _ _ _) rfl ?_
      exact ⟨j, v, .slice Ap j cp, hj1n, HJL.out, HJJ.out, rfl, V3.out, NV.out, P3.out, HPN.out, F3.out⟩
end Go.Proofs.YtkdgfioigkijgaaGreat.Prs
set_option linter.unusedVariables false
set_option linter.unusedSimpArgs false
set_option maxRecDepth 100000
namespace Go.Proofs.YtkdgfioigkijgaaGreat.Prs
open Go.RowKit Go.Proofs.YtkdgfioigkijgaaGreat.Lib Go.Proofs.YtkdgfioigkijgaaGreat.Ints Go.Proofs.YtkdgfioigkijgaaGreat.Lz Go.Proofs.YtkdgfioigkijgaaGreat.Num Go.Proofs.YtkdgfioigkijgaaGreat.Bits Go.Proofs.YtkdgfioigkijgaaGreat.Blk
theorem p1 : parse [97] ⟨100, 10, false⟩ = ex5 := by kernel_rfl
theorem ex5_one : (∀ t ∈ ex5, right t = true) ∧ LitB ex5 := by
  constructor
  · intro t ht; simp [ex5] at ht; subst ht; rfl
  · intro t ht; simp [ex5] at ht; subst ht; exact ⟨by decide, by decide⟩
theorem c0 : costK 0 0 ex5 = (48, 0) := by decide +kernel
theorem c1 : costK 1 0 ex5 = (18, 0) := by decide +kernel
theorem c2 : (costK 2 0 ex5).2 = 0 ∧ 29 ≤ (costK 2 0 ex5).1 := by
  refine ⟨rfl, ?_⟩
  have h1 := codedF_le (check15 (ownLit_check ex5)) (check15 (ownDist_check ex5)) ex5 ex5_one.1 ex5_one.2
  have h2 := lens15_get (check15 (ownLit_check ex5)) 256
  obtain ⟨_, r2, _⟩ := Head.hruns_ok (own_okH ex5)
  have h3 := Head.costF_le (Head.hlens_le (rs := Head.hruns (ownLit ex5) (ownDist ex5)) (by omega)) (Head.hruns (ownLit ex5) (ownDist ex5))
  have h4 := Head.toldN_ge (Head.hlens (Head.hruns (ownLit ex5) (ownDist ex5))) 19
  have e : (costK 2 0 ex5).1 = 3 + Head.hcost (ownLit ex5) (ownDist ex5) + codedN (ownLit ex5) (ownDist ex5) ex5 := rfl
  rw [e]
  unfold Head.hcost codedN
  omega
theorem p2 : kdN 0 ex5 = 1 := by
  obtain ⟨h1, h2⟩ := c2
  have e0 : Blk.pickF 0 ex5 1 = (0, 48) := by rw [Blk.pickF, c0]; rfl
  have e1 : Blk.pickF 0 ex5 2 = (1, 18) := by rw [Blk.pickF, c1, e0]; rfl
  have e2 : Blk.pickF 0 ex5 3 = (1, 18) := by rw [Blk.pickF, e1]; rw [if_neg]; rintro ⟨_, h | h⟩ <;> simp at h <;> omega
  have e3 : kdN 0 ex5 = (Blk.pickF 0 ex5 3).1.toNat := rfl
  rw [e3, e2]
  rfl
theorem bt1 : btN ex5 5 1 = 18 := by
  have e : btN ex5 5 1 = 0 + csN 0 ex5 := rfl
  rw [e]
  unfold csN
  rw [p2]
  have e3 : costK 1 (((0 % 8 : Nat)) : Int) ex5 = (18, 0) := c1
  rw [e3]
  rfl
theorem nb1 : numOf (PBx ex5 [97] 5 (List.range 1)) = 0x044b := by
  have e : PBx ex5 [97] 5 (List.range 1) = [] ++ blockP (kdN 0 ex5) 0 true [97] ex5 := rfl
  rw [e, p2]
  exact ex5_bits.2
theorem num10_any (w : World) (a : Int) : Calls Tryz.prog 38 #[.int .i64 a] w fun e w' => e = .returned (.int .i64 a) ∧ w = w' := by
  go_enter Tryz.func38, Tryz.ntmps38
  go_wp2
  go_ret
  exact ⟨rfl, rfl⟩
theorem goodInfo : (Tryz.prog.info? 86).map (·.size) = some (#[Value.int .i64 100, .int .i64 10, .bool false, .int .i64 5] : Array Value).size := by kernel_rfl
theorem good_any (w : World) : Calls Tryz.prog 70 #[] w fun e w' => e = .returned (.agg #[.int .i64 100, .int .i64 10, .bool false, .int .i64 5]) ∧ Fr w w' [] := by
  go_enter Tryz.func70, Tryz.ntmps70
  go_wp2
  (try simp only [Exit.inBlock, Exit.then])
  refine bodyPost_ret (results_cell_row rfl _ _ w.heap.size 86 _ _ _ rfl (blk_new w _) Tryz.underlying86 rfl goodInfo) rfl ?_
  exact ⟨rfl, (Fr.refl w []).alloc _⟩
theorem same10_any (w : World) (A B : Option Addr) (n m c d : Nat) (xs ys : List Int) (p q : Option Nat) (hn : xs.length = n) (hm : ys.length = m) (hx : ∀ x ∈ xs, 0 ≤ x ∧ x ≤ 255) (hy : ∀ x ∈ ys, 0 ≤ x ∧ x ≤ 255)
    (hS : Sl w A (u8s xs) p) (hT : Sl w B (u8s ys) q) (hA : A = none → n = 0 ∧ c = 0) (hB : B = none → m = 0 ∧ d = 0) :
    Calls Tryz.prog 39 #[.slice A n c, .slice B m d] w fun e w' => e = .returned (.bool (decide (xs = ys))) ∧ w = w' := by
  subst hn hm
  have h1 := conv_string (P := Tryz.prog) (dst := 9) Tryz.underlying23 Tryz.underlying5 Tryz.underlying9 hS hA
  have h2 := conv_string (P := Tryz.prog) (dst := 9) Tryz.underlying23 Tryz.underlying5 Tryz.underlying9 hT hB
  have He := Hd.mk (str_eq hx hy)
  clear hS hT hA hB hx hy
  go_enter Tryz.func39, Tryz.ntmps39
  go_wp2
  go_ret
  exact ⟨by rw [← He.out]; rfl, rfl⟩
set_option maxHeartbeats 4000000 in
theorem awake_any (w : World) : Calls Tryz.prog 41 #[] w fun e w' => e = .returned (.bool true) ∧ Fr w w' [] := by
  have kc := fun (w : World) (C : Array Value) (n c : Nat) => Lib.run_convert_bytes_const (P := Tryz.prog) w 23 5 C n c Tryz.underlying23 Tryz.underlying5
  go_enter Tryz.func41, Tryz.ntmps41
  go_wp2_with (fail)
  refine (good_any _).mono ?_
  rintro e w1 ⟨rfl, h1⟩
  have F1 := Hd.mk (((Fr.refl w []).alloc (.cells #[.int .u8 97] 5 (1, 2))).trans h1 (by simp))
  have B1 := Hd.mk (h1.blk (blk_new w (.cells #[.int .u8 97] 5 (1, 2))) (by simp))
  clear h1
  go_wp2_with (fail)
  refine (press_any w1 (some ⟨w.heap.size, 0, none⟩) 1 1 [97] (some w.heap.size) ⟨100, 10, false⟩ 5 0 (by decide) ⟨rfl, Nat.le_refl _, by decide, (by intro h; cases h), sl_of_blk B1.out, fun b hb => by cases hb; exact blk_lt B1.out⟩ (by intro x hx; simp at hx; subst hx; decide) (by decide)).mono ?_
  rintro e w2 ⟨v, rfl, -, h2, h3⟩
  obtain ⟨J, j1, j2, j3, o2, a2⟩ := h2 rfl
  rw [p1] at j2 j3 o2
  have e1 : ex5.length = 1 := rfl
  have e2 : (5 : Int).toNat = 5 := rfl
  rw [e1, e2] at j2 j3
  obtain rfl : J = 1 := by omega
  rw [e2, bt1, nb1, show (18 + 7) / 8 = 3 from rfl, show bytesOf 0x044b 18 = [0x4b, 0x04, 0x00] from by decide] at o2
  obtain ⟨A, c, rfl, hc, _⟩ := own_slice o2
  have S4 := Hd.mk (sl_of_own o2)
  have NA := Hd.mk (fun h => own_none o2 h)
  have F2 := Hd.mk (F1.out.trans h3 (by simp))
  clear h2 h3 o2 a2 j1 j2 j3 e1 e2 B1
  go_wp2_with (fail)
  refine (same10_any _ A _ 3 3 c 3 [75, 4, 0] [75, 4, 0] _ _ rfl rfl (by decide) (by decide) (S4.out.alloc _) (by exact sl_of_blk (blk_new w2 _)) NA.out (by intro h; cases h)).mono ?_
  rintro e w5 ⟨rfl, rfl⟩
  rw [show decide ([(75 : Int), 4, 0] = [75, 4, 0]) = true from rfl]
  have F5 := Hd.mk (F2.out.alloc (.cells #[.int .u8 75, .int .u8 4, .int .u8 0] 5))
  go_wp2
  go_ret
  exact ⟨rfl, F5.out⟩
end Go.Proofs.YtkdgfioigkijgaaGreat.Prs
