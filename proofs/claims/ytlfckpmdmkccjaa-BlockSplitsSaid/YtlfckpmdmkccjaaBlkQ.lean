/- BlockSymbols' walk. No condition. -/
import Derived.Test.YtlfckpmdmkccjaaBlkO
set_option linter.unusedVariables false
set_option linter.unusedSimpArgs false
set_option maxRecDepth 100000
namespace Go.Proofs.Ytlfckpmdmkccjaa.Blk
open Go.RowKit Go.Proofs.Ytlfckpmdmkccjaa.Lib Go.Proofs.Ytlfckpmdmkccjaa.Ints Go.Proofs.Ytlfckpmdmkccjaa.Lz Go.Proofs.Ytlfckpmdmkccjaa.Num Go.Proofs.Ytlfckpmdmkccjaa.Bits Go.Proofs.Ytlfckpmdmkccjaa.Code
theorem rcs_cell {w : World} {g : Nat} {l : List (Int × Int)} (h : Sl w (some ⟨g, 0, none⟩) (rcs l) (some g)) {i : Nat} (hi : i < l.length) : w.cell? ⟨g, i * 2, none⟩ = some (.int .i64 (l.getD i (0, 0)).1) ∧ w.cell? ⟨g, i * 2 + 1, none⟩ = some (.int .i64 (l.getD i (0, 0)).2) := by
  obtain ⟨b0, o0, e1, _, hc⟩ := Sl.row (enc := rc) (sz := 2) (fun _ => rfl) h hi (by decide)
  cases e1
  have c0 := hc 0 (by decide)
  have c1 := hc 1 (by decide)
  rw [List.getD_eq_getElem?_getD, List.getElem?_eq_getElem hi]
  simp only [rc, List.getElem?_cons_zero, List.getElem?_cons_succ, Nat.add_zero, Nat.zero_add] at c0 c1
  exact ⟨c0, c1⟩
def RowAt (w : World) (n i : Nat) (l : List (Int × Int)) (e : Ending) (w' : World) : Prop := ∃ g c, e = .returned (.slice (some ⟨g, 0, none⟩) n c) ∧ w'.cell? ⟨g, i * 2, none⟩ = some (.int .i64 (l.getD i (0, 0)).1) ∧ w'.cell? ⟨g, i * 2 + 1, none⟩ = some (.int .i64 (l.getD i (0, 0)).2) ∧ Fr w w' []
theorem rowAt_of {w w' : World} {n i : Nat} {l : List (Int × Int)} {e : Ending} (hp : RowsPost w n l e w') (hn : l.length = n) (hi : i < n) : RowAt w n i l e w' := by
  unfold RowsPost at hp
  obtain ⟨A, c, rfl, ho, hf⟩ := hp
  obtain ⟨g, c', e1, _⟩ := own_some ho (by omega)
  injection e1 with e1 _ e2
  subst e1 e2
  obtain ⟨h1, h2⟩ := rcs_cell (sl_of_own2 ho) (show i < l.length by omega)
  exact ⟨g, c, rfl, h1, h2, hf⟩
set_option maxHeartbeats 8000000 in
theorem symbols_walk (n d : Int) (W : World) (wn : (Lit.int .i64 n).wf = true) (wd : (Lit.int .i64 d).wf = true) : Calls Try.prog 5 #[.int .i64 n, .int .i64 d] W fun e w' => e = .returned (.bool true) ∧ Below W.heap.size W w' := by
  clear wn wd
  go_enter Try.func5, Try.ntmps5
  obtain ⟨⟨a, b, c, f⟩, hx⟩ : ∃ x, x = symN lenT 257 3 258 n := ⟨_, rfl⟩
  obtain ⟨⟨a2, b2, c2, f2⟩, hy⟩ : ∃ x, x = symN distT 0 1 32768 d := ⟨_, rfl⟩
  have HX := Hd.mk hx
  have HY := Hd.mk hy
  clear hx hy
  have na : (a != a) = false := by simp
  have nb : (b != b) = false := by simp
  have nc : (c != c) = false := by simp
  have nf : (f != f) = false := by simp
  have na2 : (a2 != a2) = false := by simp
  have nb2 : (b2 != b2) = false := by simp
  have nc2 : (c2 != c2) = false := by simp
  have nf2 : (f2 != f2) = false := by simp
  go_wp2_with (fail)
  refine (lenSymbol_any W n).mono ?_
  rintro e w1 ⟨rfl, h1⟩
  rw [← HX.out]
  have F1 := Hd.mk h1
  clear h1
  go_wp2_with (fail)
  refine (rlenSymbol_any w1 n).mono ?_
  rintro e w2 ⟨rfl, h1⟩
  rw [← HX.out]
  have F2 := Hd.mk (F1.out.trans h1 (by simp))
  clear h1 F1
  go_wp2_with (fail)
  refine (distSymbol_any w2 d).mono ?_
  rintro e w3 ⟨rfl, h1⟩
  rw [← HY.out]
  have F3 := Hd.mk (F2.out.trans h1 (by simp))
  clear h1 F2
  go_wp2_with (fail)
  refine (rdistSymbol_any w3 d).mono ?_
  rintro e w4 ⟨rfl, h1⟩
  rw [← HY.out]
  have F4 := Hd.mk (F3.out.trans h1 (by simp))
  clear h1 F3
  go_wp2_with (fail)
  refine (lenOf_any w4 n).mono ?_
  rintro e w5 ⟨rfl, h1⟩
  have F5 := Hd.mk (F4.out.trans h1 (by simp))
  clear h1 F4
  by_cases hn : n < 257 ∨ 285 < n
  · rw [show ofN lenT 257 n = (0, 0, 1) from by unfold ofN; rw [if_pos (by have : lenT.length = 29 := rfl; omega)]]
    simp only
    have FZ := F5
    by_cases hn0 : n < 257
    · clear hn
      go_wp2_with (fail)
      refine (distOf_any w5 d).mono ?_
      rintro e v1 ⟨rfl, h1⟩
      have G1 := Hd.mk (FZ.out.trans h1 (by simp))
      clear h1 FZ
      by_cases hd : d < 0 ∨ 29 < d
      · rw [show ofN distT 0 d = (0, 0, 1) from by unfold ofN; rw [if_pos (by have : distT.length = 30 := rfl; omega)]]
        simp only
        by_cases hd0 : d < 0
        · clear hd
          go_wp2_with (fail)
          refine (blives_any v1).mono ?_
          rintro e v2 ⟨rfl, h1⟩
          have G2 := Hd.mk (G1.out.trans h1 (by simp))
          clear h1
          go_wp2
          go_ret
          exact ⟨rfl, G2.out.below⟩
        · have hd1 := hd.resolve_left hd0
          clear hd
          go_wp2_with (fail)
          refine (blives_any v1).mono ?_
          rintro e v2 ⟨rfl, h1⟩
          have G2 := Hd.mk (G1.out.trans h1 (by simp))
          clear h1
          go_wp2
          go_ret
          exact ⟨rfl, G2.out.below⟩
      · obtain ⟨i, rfl⟩ := Int.eq_ofNat_of_zero_le (show 0 ≤ d by omega)
        have hi : i < 30 := by omega
        have hd2 : ¬ ((i : Int) < 0) := by omega
        have hd3 : ¬ (29 < (i : Int)) := by omega
        have hid : (i : Int) ≤ 29 := by omega
        clear hd
        obtain ⟨⟨xa, xb⟩, hxx⟩ : ∃ x, x = distT.getD i (0, 0) := ⟨_, rfl⟩
        rw [show ofN distT 0 (i : Int) = (xa, xb, 0) from by unfold ofN; rw [if_neg (by have : distT.length = 30 := rfl; omega), Int.sub_zero, Int.toNat_natCast, ← hxx]]
        have HXX := Hd.mk hxx
        clear hxx
        have ea : (xa == xa) = true := by simp
        have eb : (xb == xb) = true := by simp
        simp only
        go_wp2_with (fail)
        refine (rDists_any v1).mono ?_
        intro e v2 hp
        obtain ⟨g, cc, rfl, k0, k1, h1⟩ := rowAt_of hp (i := i) rfl hi
        rw [← HXX.out] at k0 k1
        have G2 := Hd.mk (G1.out.trans h1 (by simp))
        clear h1 hp k1 G1
        go_wp2_with (fail)
        refine (rDists_any v2).mono ?_
        intro e v3 hp
        obtain ⟨g2, cc2, rfl, k2, k3, h1⟩ := rowAt_of hp (i := i) rfl hi
        rw [← HXX.out] at k2 k3
        have G3 := Hd.mk (G2.out.trans h1 (by simp))
        clear h1 hp k0 k2 G2
        go_wp2_with (fail)
        refine (blives_any v3).mono ?_
        rintro e v4 ⟨rfl, h1⟩
        have G4 := Hd.mk (G3.out.trans h1 (by simp))
        clear h1 G3
        go_wp2
        go_ret
        exact ⟨rfl, G4.out.below⟩
    · have hn1 := hn.resolve_left hn0
      clear hn
      go_wp2_with (fail)
      refine (distOf_any w5 d).mono ?_
      rintro e v1 ⟨rfl, h1⟩
      have G1 := Hd.mk (FZ.out.trans h1 (by simp))
      clear h1 FZ
      by_cases hd : d < 0 ∨ 29 < d
      · rw [show ofN distT 0 d = (0, 0, 1) from by unfold ofN; rw [if_pos (by have : distT.length = 30 := rfl; omega)]]
        simp only
        by_cases hd0 : d < 0
        · clear hd
          go_wp2_with (fail)
          refine (blives_any v1).mono ?_
          rintro e v2 ⟨rfl, h1⟩
          have G2 := Hd.mk (G1.out.trans h1 (by simp))
          clear h1
          go_wp2
          go_ret
          exact ⟨rfl, G2.out.below⟩
        · have hd1 := hd.resolve_left hd0
          clear hd
          go_wp2_with (fail)
          refine (blives_any v1).mono ?_
          rintro e v2 ⟨rfl, h1⟩
          have G2 := Hd.mk (G1.out.trans h1 (by simp))
          clear h1
          go_wp2
          go_ret
          exact ⟨rfl, G2.out.below⟩
      · obtain ⟨i, rfl⟩ := Int.eq_ofNat_of_zero_le (show 0 ≤ d by omega)
        have hi : i < 30 := by omega
        have hd2 : ¬ ((i : Int) < 0) := by omega
        have hd3 : ¬ (29 < (i : Int)) := by omega
        have hid : (i : Int) ≤ 29 := by omega
        clear hd
        obtain ⟨⟨xa, xb⟩, hxx⟩ : ∃ x, x = distT.getD i (0, 0) := ⟨_, rfl⟩
        rw [show ofN distT 0 (i : Int) = (xa, xb, 0) from by unfold ofN; rw [if_neg (by have : distT.length = 30 := rfl; omega), Int.sub_zero, Int.toNat_natCast, ← hxx]]
        have HXX := Hd.mk hxx
        clear hxx
        have ea : (xa == xa) = true := by simp
        have eb : (xb == xb) = true := by simp
        simp only
        go_wp2_with (fail)
        refine (rDists_any v1).mono ?_
        intro e v2 hp
        obtain ⟨g, cc, rfl, k0, k1, h1⟩ := rowAt_of hp (i := i) rfl hi
        rw [← HXX.out] at k0 k1
        have G2 := Hd.mk (G1.out.trans h1 (by simp))
        clear h1 hp k1 G1
        go_wp2_with (fail)
        refine (rDists_any v2).mono ?_
        intro e v3 hp
        obtain ⟨g2, cc2, rfl, k2, k3, h1⟩ := rowAt_of hp (i := i) rfl hi
        rw [← HXX.out] at k2 k3
        have G3 := Hd.mk (G2.out.trans h1 (by simp))
        clear h1 hp k0 k2 G2
        go_wp2_with (fail)
        refine (blives_any v3).mono ?_
        rintro e v4 ⟨rfl, h1⟩
        have G4 := Hd.mk (G3.out.trans h1 (by simp))
        clear h1 G3
        go_wp2
        go_ret
        exact ⟨rfl, G4.out.below⟩
  · obtain ⟨k, hk⟩ := Int.eq_ofNat_of_zero_le (show 0 ≤ n - 257 by omega)
    have hk29 : k < 29 := by omega
    have hn2 : ¬ n < 257 := by omega
    have hn3 : ¬ 285 < n := by omega
    obtain ⟨⟨ya, yb⟩, hyy⟩ : ∃ x, x = lenT.getD k (0, 0) := ⟨_, rfl⟩
    rw [show ofN lenT 257 n = (ya, yb, 0) from by unfold ofN; rw [if_neg (by have : lenT.length = 29 := rfl; omega), hk]; simp only [Int.toNat_natCast, ← hyy]]
    have HYY := Hd.mk hyy
    clear hyy hn
    have ea : (ya != ya) = false := by simp
    have eb : (yb != yb) = false := by simp
    simp only
    go_wp2_with (fail)
    refine (rLens_any w5).mono ?_
    intro e w6 hp
    obtain ⟨g, cc, rfl, k0, k1, h1⟩ := rowAt_of hp (i := k) rfl hk29
    rw [← HYY.out] at k0 k1
    have F6 := Hd.mk (F5.out.trans h1 (by simp))
    clear h1 hp k1 F5
    go_wp2_with (fail)
    refine (rLens_any w6).mono ?_
    intro e w7 hp
    obtain ⟨g2, cc2, rfl, k2, k3, h1⟩ := rowAt_of hp (i := k) rfl hk29
    rw [← HYY.out] at k2 k3
    have FZ := Hd.mk (F6.out.trans h1 (by simp))
    clear h1 hp k0 k2 F6
    go_wp2_with (fail)
    refine (distOf_any w7 d).mono ?_
    rintro e v1 ⟨rfl, h1⟩
    have G1 := Hd.mk (FZ.out.trans h1 (by simp))
    clear h1 FZ
    by_cases hd : d < 0 ∨ 29 < d
    · rw [show ofN distT 0 d = (0, 0, 1) from by unfold ofN; rw [if_pos (by have : distT.length = 30 := rfl; omega)]]
      simp only
      by_cases hd0 : d < 0
      · clear hd
        go_wp2_with (fail)
        refine (blives_any v1).mono ?_
        rintro e v2 ⟨rfl, h1⟩
        have G2 := Hd.mk (G1.out.trans h1 (by simp))
        clear h1
        go_wp2
        go_ret
        exact ⟨rfl, G2.out.below⟩
      · have hd1 := hd.resolve_left hd0
        clear hd
        go_wp2_with (fail)
        refine (blives_any v1).mono ?_
        rintro e v2 ⟨rfl, h1⟩
        have G2 := Hd.mk (G1.out.trans h1 (by simp))
        clear h1
        go_wp2
        go_ret
        exact ⟨rfl, G2.out.below⟩
    · obtain ⟨i, rfl⟩ := Int.eq_ofNat_of_zero_le (show 0 ≤ d by omega)
      have hi : i < 30 := by omega
      have hd2 : ¬ ((i : Int) < 0) := by omega
      have hd3 : ¬ (29 < (i : Int)) := by omega
      have hid : (i : Int) ≤ 29 := by omega
      clear hd
      obtain ⟨⟨xa, xb⟩, hxx⟩ : ∃ x, x = distT.getD i (0, 0) := ⟨_, rfl⟩
      rw [show ofN distT 0 (i : Int) = (xa, xb, 0) from by unfold ofN; rw [if_neg (by have : distT.length = 30 := rfl; omega), Int.sub_zero, Int.toNat_natCast, ← hxx]]
      have HXX := Hd.mk hxx
      clear hxx
      have ea : (xa == xa) = true := by simp
      have eb : (xb == xb) = true := by simp
      simp only
      go_wp2_with (fail)
      refine (rDists_any v1).mono ?_
      intro e v2 hp
      obtain ⟨g, cc, rfl, k0, k1, h1⟩ := rowAt_of hp (i := i) rfl hi
      rw [← HXX.out] at k0 k1
      have G2 := Hd.mk (G1.out.trans h1 (by simp))
      clear h1 hp k1 G1
      go_wp2_with (fail)
      refine (rDists_any v2).mono ?_
      intro e v3 hp
      obtain ⟨g2, cc2, rfl, k2, k3, h1⟩ := rowAt_of hp (i := i) rfl hi
      rw [← HXX.out] at k2 k3
      have G3 := Hd.mk (G2.out.trans h1 (by simp))
      clear h1 hp k0 k2 G2
      go_wp2_with (fail)
      refine (blives_any v3).mono ?_
      rintro e v4 ⟨rfl, h1⟩
      have G4 := Hd.mk (G3.out.trans h1 (by simp))
      clear h1 G3
      go_wp2
      go_ret
      exact ⟨rfl, G4.out.below⟩
end Go.Proofs.Ytlfckpmdmkccjaa.Blk
