/- LensNames' walk. No condition. -/
import Derived.Test.YtomiammdfiddbaaHeapD
import Derived.Test.YtomiammdfiddbaaLensCosts
import Derived.Test.YtomiammdfiddbaaLensF
set_option linter.unusedVariables false
set_option linter.unusedSimpArgs false
set_option maxRecDepth 100000
namespace Go.Proofs.Ytomiammdfiddbaa.Lens
open Go.RowKit Go.Proofs.Ytomiammdfiddbaa.Lib Go.Proofs.Ytomiammdfiddbaa.Ints Go.Proofs.Ytomiammdfiddbaa.Heaps Go.Proofs.Ytomiammdfiddbaa.Heap
theorem names_0 : lensN 15 [] = ([], 0) := by rw [lensE_eq]; decide +kernel
theorem names_1 : lensN 15 [0, 7] = ([0, 1], 0) := by rw [lensE_eq]; decide +kernel
theorem names_2 : lensN 3 [1, 2, 4, 8, 16] = ([3, 3, 3, 3, 1], 0) := by rw [lensE_eq]; decide +kernel
theorem names_3 : leastN [1, 1, 2, 4] (cn [1, 1, 2, 4]) = (14, 0) := by decide +kernel
set_option maxHeartbeats 4000000 in
theorem names_any (w : World) : Calls Try.prog 9 #[] w fun e w' => e = .returned (.bool true) ∧ Fr w w' [] := by
  go_enter Try.func9, Try.ntmps9
  go_wp2_with (fail)
  refine (lengths_any w 15 none 0 0 [] none rfl (Sl.nil _ _ _) (by decide)).mono ?_
  rintro e w1 ⟨A0, n, c0, rfl, h1, h2, h3⟩
  rw [names_0] at h1 ⊢
  have hn : n = 0 := by have := h1.1; simp [i64s] at this; omega
  subst hn
  have F1 := Hd.mk h3
  clear h1 h2 h3
  go_wp2_with (fail)
  have S1 := Hd.mk (sl_of_blk (blk_new w1 (.cells #[.int .i64 0, .int .i64 7] 3)))
  refine (lengths_any _ 15 (some ⟨w1.heap.size, 0, none⟩) 2 2 [0, 7] (some w1.heap.size) rfl S1.out (by decide)).mono ?_
  rintro e w2 ⟨A1, n, c1, rfl, h1, h2, h3⟩
  rw [names_1] at h1 ⊢
  have hn : n = 2 := by have := h1.1; simp [i64s] at this; omega
  subst hn
  have O1 := Hd.mk h1
  have F2 := Hd.mk ((F1.out.alloc (.cells #[.int .i64 0, .int .i64 7] 3)).trans h3 (by simp))
  clear h1 h2 h3 S1
  go_wp2_with (fail)
  have S2 := Hd.mk (sl_of_blk (blk_new w2 (.cells #[.int .i64 1, .int .i64 2, .int .i64 4, .int .i64 8, .int .i64 16] 3)))
  refine (lengths_any _ 3 (some ⟨w2.heap.size, 0, none⟩) 5 5 [1, 2, 4, 8, 16] (some w2.heap.size) rfl S2.out (by decide)).mono ?_
  rintro e w3 ⟨A2, n, c2, rfl, h1, h2, h3⟩
  rw [names_2] at h1 ⊢
  have hn : n = 5 := by have := h1.1; simp [i64s] at this; omega
  subst hn
  have O2 := Hd.mk h1
  have K3 := Hd.mk (((Fr.refl w2 []).alloc (.cells #[.int .i64 1, .int .i64 2, .int .i64 4, .int .i64 8, .int .i64 16] 3)).trans h3 (by simp))
  have O1a := Hd.mk (own_frame O1.out K3.out (by simp))
  have F3 := Hd.mk (F2.out.trans K3.out (by simp))
  clear h1 h2 h3 S2 O1 K3
  go_wp2_with (fail)
  have S3 := Hd.mk (sl_of_blk (blk_new w3 (.cells #[.int .i64 1, .int .i64 1, .int .i64 2, .int .i64 4] 3)))
  refine (least_any _ (some ⟨w3.heap.size, 0, none⟩) 4 4 [1, 1, 2, 4] (some w3.heap.size) rfl S3.out (by decide)).mono ?_
  intro e w4 hp
  unfold LeastPost at hp
  obtain ⟨rfl, h3⟩ := hp
  rw [names_3]
  have K4 := Hd.mk (((Fr.refl w3 []).alloc (.cells #[.int .i64 1, .int .i64 1, .int .i64 2, .int .i64 4] 3)).trans h3 (by simp))
  have O1b := Hd.mk (own_frame O1a.out K4.out (by simp))
  have O2b := Hd.mk (own_frame O2.out K4.out (by simp))
  have F4 := Hd.mk (F3.out.trans K4.out (by simp))
  clear h3 S3 O1a O2 K4
  go_wp2_with (fail)
  refine (num_any w4 40).mono ?_
  rintro e w5 ⟨rfl, rfl⟩
  go_wp2_with (fail)
  refine (num_any w4 41).mono ?_
  rintro e w5 ⟨rfl, rfl⟩
  go_wp2_with (fail)
  refine (num_any w4 42).mono ?_
  rintro e w5 ⟨rfl, rfl⟩
  go_wp2_with (fail)
  refine (awake_any w4).mono ?_
  rintro e w5 ⟨rfl, h5⟩
  have O1c := Hd.mk (own_frame O1b.out h5 (by simp))
  have O2c := Hd.mk (own_frame O2b.out h5 (by simp))
  have F5 := Hd.mk (F4.out.trans h5 (by simp))
  clear h5
  go_wp2_with (fail)
  refine (same_any _ A1 (some ⟨w5.heap.size, 0, none⟩) 2 2 c1 2 [0, 1] [0, 1] _ (some w5.heap.size) rfl rfl (by exact sl_of_own (O1c.out.alloc _)) (by exact sl_of_blk (blk_new _ _)) (by omega) (by omega)).mono ?_
  rintro e w6 ⟨rfl, h6⟩
  rw [decide_eq_true rfl]
  have K6 := Hd.mk (((Fr.refl w5 []).alloc (.cells #[.int .i64 0, .int .i64 1] 3)).trans h6 (by simp))
  have O2d := Hd.mk (own_frame O2c.out K6.out (by simp))
  have F6 := Hd.mk (F5.out.trans K6.out (by simp))
  clear h6 K6 O2c O1c
  go_wp2_with (fail)
  refine (same_any _ A2 (some ⟨w6.heap.size, 0, none⟩) 5 5 c2 5 [3, 3, 3, 3, 1] [3, 3, 3, 3, 1] _ (some w6.heap.size) rfl rfl (by exact sl_of_own (O2d.out.alloc _)) (by exact sl_of_blk (blk_new _ _)) (by omega) (by omega)).mono ?_
  rintro e w7 ⟨rfl, h7⟩
  rw [decide_eq_true rfl]
  have F7 := Hd.mk (F6.out.trans (((Fr.refl w6 []).alloc (.cells #[.int .i64 3, .int .i64 3, .int .i64 3, .int .i64 3, .int .i64 1] 3)).trans h7 (by simp)) (by simp))
  clear h7
  go_wp2
  go_ret
  exact ⟨rfl, F7.out⟩
theorem names_law (W : World) : Calls Try.prog 9 #[] W fun e w' => e = .returned (.bool true) ∧ Below W.heap.size W w' :=
  (names_any W).mono fun e w' h => ⟨h.1, h.2.below⟩
end Go.Proofs.Ytomiammdfiddbaa.Lens
