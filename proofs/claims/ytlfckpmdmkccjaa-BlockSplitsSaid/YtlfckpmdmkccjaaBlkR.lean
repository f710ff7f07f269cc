/- BlockSplits' walk. No condition. -/
import Derived.Test.YtlfckpmdmkccjaaBlkQ
set_option linter.unusedVariables false
set_option linter.unusedSimpArgs false
set_option maxRecDepth 100000
namespace Go.Proofs.Ytlfckpmdmkccjaa.Blk
open Go.RowKit Go.Proofs.Ytlfckpmdmkccjaa.Lib Go.Proofs.Ytlfckpmdmkccjaa.Ints Go.Proofs.Ytlfckpmdmkccjaa.Lz Go.Proofs.Ytlfckpmdmkccjaa.Num Go.Proofs.Ytlfckpmdmkccjaa.Bits Go.Proofs.Ytlfckpmdmkccjaa.Code
theorem lens_split {n : Int} (h0 : 3 ≤ n) (h1 : n ≤ 258) : ∃ (s : Int) (b v : Nat) (l : Int), symN lenT 257 3 258 n = (s, (b : Int), (v : Int), 0) ∧ ofN lenT 257 s = (l, (b : Int), 0) ∧ l + (v : Int) = n ∧ v < 2 ^ b ∧ b ≤ 5 ∧ 257 ≤ s ∧ s ≤ 285 ∧ 0 ≤ l ∧ l ≤ 258 := by
  have hp := plc_lt lenT n 29 (by decide)
  have hf := lenT_fit h0 h1
  have hb := lenT_le _ hp
  obtain ⟨b, hbb⟩ := Int.eq_ofNat_of_zero_le hb.2.2.1
  obtain ⟨v, hv⟩ := Int.eq_ofNat_of_zero_le (show 0 ≤ n - (lenT.getD (plc lenT n 29) (0, 0)).1 by omega)
  refine ⟨257 + (plc lenT n 29 : Nat), b, v, (lenT.getD (plc lenT n 29) (0, 0)).1, ?_, ?_, by omega, ?_, by omega, by omega, by omega, hb.1, hb.2.1⟩
  · unfold symN
    rw [if_neg (by omega), show lenT.length = 29 from rfl, hbb, hv]
  · unfold ofN
    rw [if_neg (by have : lenT.length = 29 := rfl; omega), show (257 + ((plc lenT n 29 : Nat) : Int) - 257).toNat = plc lenT n 29 from by omega, hbb]
  · have := hf.2
    rw [hbb, Int.toNat_natCast] at this
    have : (v : Int) < ((2 ^ b : Nat) : Int) := by push_cast; omega
    exact_mod_cast this
theorem dists_split {n : Int} (h0 : 1 ≤ n) (h1 : n ≤ 32768) : ∃ (s : Int) (b v : Nat) (l : Int), symN distT 0 1 32768 n = (s, (b : Int), (v : Int), 0) ∧ ofN distT 0 s = (l, (b : Int), 0) ∧ l + (v : Int) = n ∧ v < 2 ^ b ∧ b ≤ 13 ∧ 0 ≤ s ∧ s ≤ 29 ∧ 0 ≤ l ∧ l ≤ 24577 := by
  have hp := plc_lt distT n 30 (by decide)
  have hf := distT_fit h0 h1
  have hb := distT_le _ hp
  obtain ⟨b, hbb⟩ := Int.eq_ofNat_of_zero_le hb.2.2.1
  obtain ⟨v, hv⟩ := Int.eq_ofNat_of_zero_le (show 0 ≤ n - (distT.getD (plc distT n 30) (0, 0)).1 by omega)
  refine ⟨0 + (plc distT n 30 : Nat), b, v, (distT.getD (plc distT n 30) (0, 0)).1, ?_, ?_, by omega, ?_, by omega, by omega, by omega, hb.1, hb.2.1⟩
  · unfold symN
    rw [if_neg (by omega), show distT.length = 30 from rfl, hbb, hv]
  · unfold ofN
    rw [if_neg (by have : distT.length = 30 := rfl; omega), show (0 + ((plc distT n 30 : Nat) : Int) - 0).toNat = plc distT n 30 from by omega, hbb]
  · have := hf.2
    rw [hbb, Int.toNat_natCast] at this
    have : (v : Int) < ((2 ^ b : Nat) : Int) := by push_cast; omega
    exact_mod_cast this
theorem shl_one {b : Nat} (hb : b ≤ 13) : wrap64 ((2 : Int) ^ b) = ((2 ^ b : Nat) : Int) := by
  have : ∀ b, b < 14 → wrap64 ((2 : Int) ^ b) = ((2 ^ b : Nat) : Int) := by decide +kernel
  exact this b (by omega)
theorem shl_lt {b v : Nat} (hb : b ≤ 13) (hv : v < 2 ^ b) : (v : Int) < wrap64 ((2 : Int) ^ b) := by
  rw [shl_one hb]
  exact_mod_cast hv
theorem shl_nge {b v : Nat} (hb : b ≤ 13) (hv : v < 2 ^ b) : ¬ wrap64 ((2 : Int) ^ b) ≤ (v : Int) := Int.not_le.2 (shl_lt hb hv)
set_option maxHeartbeats 8000000 in
theorem splits_walk (n d : Int) (W : World) (wn : (Lit.int .i64 n).wf = true) (wd : (Lit.int .i64 d).wf = true) : Calls Try.prog 6 #[.int .i64 n, .int .i64 d] W fun e w' => e = .returned (.bool true) ∧ Below W.heap.size W w' := by
  clear wn wd
  go_enter Try.func6, Try.ntmps6
  by_cases hn : 3 ≤ n ∧ n ≤ 258
  · obtain ⟨hn0, hn1⟩ := hn
    obtain ⟨s, b, v, l, e1, e2, e3, e4, e5, e6, e7, e8, e9⟩ := lens_split hn0 hn1
    go_wp2_with (fail)
    refine (lenSymbol_any W n).mono ?_
    rintro e w1 ⟨rfl, h1⟩
    rw [e1]
    have F1 := Hd.mk h1
    clear h1
    go_wp2_with (fail)
    refine (lenOf_any w1 s).mono ?_
    rintro e w2 ⟨rfl, h1⟩
    rw [e2]
    have F2 := Hd.mk (F1.out.trans h1 (by simp))
    clear h1 F1 e1 e2
    have hb64 : (b : Int) < 64 := by omega
    have hvv := shl_nge (Nat.le_trans e5 (by decide)) e4
    simp only
    by_cases hd : 1 ≤ d ∧ d ≤ 32768
    · obtain ⟨hd0, hd1⟩ := hd
      obtain ⟨s', b', v', l', g1, g2, g3, g4, g5, g6, g7, g8, g9⟩ := dists_split hd0 hd1
      go_wp2_with (fail)
      refine (distSymbol_any w2 d).mono ?_
      rintro e u1 ⟨rfl, h1⟩
      rw [g1]
      have G1 := Hd.mk (F2.out.trans h1 (by simp))
      clear h1
      go_wp2_with (fail)
      refine (distOf_any u1 s').mono ?_
      rintro e u2 ⟨rfl, h1⟩
      rw [g2]
      have G2 := Hd.mk (G1.out.trans h1 (by simp))
      clear h1 G1 g1 g2
      have hb64' : (b' : Int) < 64 := by omega
      have hvv' := shl_lt g5 g4
      simp only
      go_wp2_with (fail)
      refine (blives_any u2).mono ?_
      rintro e u3 ⟨rfl, h1⟩
      have G3 := Hd.mk (G2.out.trans h1 (by simp))
      clear h1
      go_wp2
      go_ret
      exact ⟨rfl, G3.out.below⟩
    · have e2 : symN distT 0 1 32768 d = (0, 0, 0, 1) := by unfold symN; rw [if_pos (by omega)]
      go_wp2_with (fail)
      refine (distSymbol_any w2 d).mono ?_
      rintro e u1 ⟨rfl, h1⟩
      rw [e2]
      have G1 := Hd.mk (F2.out.trans h1 (by simp))
      clear h1 e2
      simp only
      by_cases hd0 : 1 ≤ d
      · have hd1 : ¬ d ≤ 32768 := by omega
        clear hd
        go_wp2_with (fail)
        refine (blives_any u1).mono ?_
        rintro e u3 ⟨rfl, h1⟩
        have G3 := Hd.mk (G1.out.trans h1 (by simp))
        clear h1
        go_wp2
        go_ret
        exact ⟨rfl, G3.out.below⟩
      · clear hd
        go_wp2_with (fail)
        refine (blives_any u1).mono ?_
        rintro e u3 ⟨rfl, h1⟩
        have G3 := Hd.mk (G1.out.trans h1 (by simp))
        clear h1
        go_wp2
        go_ret
        exact ⟨rfl, G3.out.below⟩
  · have e1 : symN lenT 257 3 258 n = (0, 0, 0, 1) := by unfold symN; rw [if_pos (by omega)]
    go_wp2_with (fail)
    refine (lenSymbol_any W n).mono ?_
    rintro e w1 ⟨rfl, h1⟩
    rw [e1]
    have F1 := Hd.mk h1
    clear h1 e1
    simp only
    by_cases hn0 : 3 ≤ n
    · have hn1 : ¬ n ≤ 258 := by omega
      clear hn
      by_cases hd : 1 ≤ d ∧ d ≤ 32768
      · obtain ⟨hd0, hd1⟩ := hd
        obtain ⟨s', b', v', l', g1, g2, g3, g4, g5, g6, g7, g8, g9⟩ := dists_split hd0 hd1
        go_wp2_with (fail)
        refine (distSymbol_any w1 d).mono ?_
        rintro e u1 ⟨rfl, h1⟩
        rw [g1]
        have G1 := Hd.mk (F1.out.trans h1 (by simp))
        clear h1
        go_wp2_with (fail)
        refine (distOf_any u1 s').mono ?_
        rintro e u2 ⟨rfl, h1⟩
        rw [g2]
        have G2 := Hd.mk (G1.out.trans h1 (by simp))
        clear h1 G1 g1 g2
        have hb64' : (b' : Int) < 64 := by omega
        have hvv' := shl_lt g5 g4
        simp only
        go_wp2_with (fail)
        refine (blives_any u2).mono ?_
        rintro e u3 ⟨rfl, h1⟩
        have G3 := Hd.mk (G2.out.trans h1 (by simp))
        clear h1
        go_wp2
        go_ret
        exact ⟨rfl, G3.out.below⟩
      · have e2 : symN distT 0 1 32768 d = (0, 0, 0, 1) := by unfold symN; rw [if_pos (by omega)]
        go_wp2_with (fail)
        refine (distSymbol_any w1 d).mono ?_
        rintro e u1 ⟨rfl, h1⟩
        rw [e2]
        have G1 := Hd.mk (F1.out.trans h1 (by simp))
        clear h1 e2
        simp only
        by_cases hd0 : 1 ≤ d
        · have hd1 : ¬ d ≤ 32768 := by omega
          clear hd
          go_wp2_with (fail)
          refine (blives_any u1).mono ?_
          rintro e u3 ⟨rfl, h1⟩
          have G3 := Hd.mk (G1.out.trans h1 (by simp))
          clear h1
          go_wp2
          go_ret
          exact ⟨rfl, G3.out.below⟩
        · clear hd
          go_wp2_with (fail)
          refine (blives_any u1).mono ?_
          rintro e u3 ⟨rfl, h1⟩
          have G3 := Hd.mk (G1.out.trans h1 (by simp))
          clear h1
          go_wp2
          go_ret
          exact ⟨rfl, G3.out.below⟩
    · clear hn
      by_cases hd : 1 ≤ d ∧ d ≤ 32768
      · obtain ⟨hd0, hd1⟩ := hd
        obtain ⟨s', b', v', l', g1, g2, g3, g4, g5, g6, g7, g8, g9⟩ := dists_split hd0 hd1
        go_wp2_with (fail)
        refine (distSymbol_any w1 d).mono ?_
        rintro e u1 ⟨rfl, h1⟩
        rw [g1]
        have G1 := Hd.mk (F1.out.trans h1 (by simp))
        clear h1
        go_wp2_with (fail)
        refine (distOf_any u1 s').mono ?_
        rintro e u2 ⟨rfl, h1⟩
        rw [g2]
        have G2 := Hd.mk (G1.out.trans h1 (by simp))
        clear h1 G1 g1 g2
        have hb64' : (b' : Int) < 64 := by omega
        have hvv' := shl_lt g5 g4
        simp only
        go_wp2_with (fail)
        refine (blives_any u2).mono ?_
        rintro e u3 ⟨rfl, h1⟩
        have G3 := Hd.mk (G2.out.trans h1 (by simp))
        clear h1
        go_wp2
        go_ret
        exact ⟨rfl, G3.out.below⟩
      · have e2 : symN distT 0 1 32768 d = (0, 0, 0, 1) := by unfold symN; rw [if_pos (by omega)]
        go_wp2_with (fail)
        refine (distSymbol_any w1 d).mono ?_
        rintro e u1 ⟨rfl, h1⟩
        rw [e2]
        have G1 := Hd.mk (F1.out.trans h1 (by simp))
        clear h1 e2
        simp only
        by_cases hd0 : 1 ≤ d
        · have hd1 : ¬ d ≤ 32768 := by omega
          clear hd
          go_wp2_with (fail)
          refine (blives_any u1).mono ?_
          rintro e u3 ⟨rfl, h1⟩
          have G3 := Hd.mk (G1.out.trans h1 (by simp))
          clear h1
          go_wp2
          go_ret
          exact ⟨rfl, G3.out.below⟩
        · clear hd
          go_wp2_with (fail)
          refine (blives_any u1).mono ?_
          rintro e u3 ⟨rfl, h1⟩
          have G3 := Hd.mk (G1.out.trans h1 (by simp))
          clear h1
          go_wp2
          go_ret
          exact ⟨rfl, G3.out.below⟩
end Go.Proofs.Ytlfckpmdmkccjaa.Blk
