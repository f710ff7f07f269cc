/- LensLeast's walk. Conditions: none but what memory bounds. -/
import Derived.Test.YtomiammdfiddbaaHeapR
import Derived.Test.YtomiammdfiddbaaLensCosts
set_option linter.unusedVariables false
set_option linter.unusedSimpArgs false
set_option maxRecDepth 100000
namespace Go.Proofs.Ytomiammdfiddbaa.Lens
open Go.RowKit Go.Proofs.Ytomiammdfiddbaa.Lib Go.Proofs.Ytomiammdfiddbaa.Ints Go.Proofs.Ytomiammdfiddbaa.Heaps Go.Proofs.Ytomiammdfiddbaa.Heap
set_option maxHeartbeats 4000000 in
theorem least_law (A : Option Addr) (n c : Nat) (xs : List Int) (p : Option Nat) (W : World)
    (hS : SlArg W A n c (i64s xs) p) (hw1 : ∀ x ∈ xs, (Lit.int .i64 x).wf = true) (hy1 : n * 8 ≤ 140737488351232) :
    Calls Try.prog 4 #[.slice A n c] W fun e w' => e = .returned (.bool true) ∧ Below W.heap.size W w' := by
  obtain ⟨i0, hi0, hz0, hz1, hz2⟩ := info_parts infoI64
  have HS := Hd.mk hS
  have hln : xs.length = n := by have := hS.len; simpa [i64s] using this
  have HN := Hd.mk hln
  clear hS hw1 hln
  go_enter Try.func4, Try.ntmps4
  go_wp2_with (fail)
  refine (lend_any W A n c xs p HS.out (by omega)).mono ?_
  rintro e w1 ⟨g, e1, rfl, h1, h2, h3⟩
  have O1 := Hd.mk h1
  have F1 := Hd.mk h3
  have hd1 : n + 4 ≤ e1 := by obtain ⟨_, _, e, hh, _⟩ := own_slice h1; cases e; exact hh
  clear h1 h2 h3
  obtain ⟨cv, hcv⟩ : ∃ cv, cv = (leastN xs (cn xs)).1 := ⟨_, rfl⟩
  obtain ⟨ce, hce⟩ : ∃ ce, ce = (leastN xs (cn xs)).2 := ⟨_, rfl⟩
  have HCV := Hd.mk hcv
  have HCE := Hd.mk hce
  clear hcv hce
  have cut : ∀ W : World, (Instr.slice 22 (.slice (some ⟨g, 0, none⟩) (n + 4) e1) none (some (.int .i64 (n : Nat))) none).run Try.prog W = .ok (.slice (some ⟨g, 0, none⟩) n e1) W :=
    run_cut_to 22 3 .i64 Try.underlying22 hi0 1 hz1 (some ⟨g, 0, none⟩) (n + 4) e1 n (fun h => by cases h) (by omega)
  go_wp2_with (fail)
  refine (least_any w1 (some ⟨g, 0, none⟩) n e1 xs (some g) HN.out (own_take O1.out HN.out) (by omega)).mono ?_
  intro e w2 hp
  unfold LeastPost at hp
  obtain ⟨rfl, h2⟩ := hp
  rw [← HCV.out, ← HCE.out]
  have O2 := Hd.mk (own_frame O1.out h2 (by simp))
  have F2 := Hd.mk (F1.out.trans h2 (by simp))
  clear h2
  go_wp2_with (fail)
  refine (rleast_any w2 A n c xs p HN.out (HS.out.sl.frame F2.out (by simp)) (by omega)).mono ?_
  intro e w3 hp
  unfold LeastPost at hp
  obtain ⟨rfl, h3⟩ := hp
  rw [← HCV.out, ← HCE.out]
  have O3 := Hd.mk (own_frame O2.out h3 (by simp))
  have F3 := Hd.mk (F2.out.trans h3 (by simp))
  clear h3
  go_wp2_with (fail)
  refine (num_any w3 ce).mono ?_
  rintro e w3' ⟨rfl, rfl⟩
  go_wp2_with (fail)
  refine (lend_any w3 A n c xs p (HS.out.frame F3.out (by simp)) (by omega)).mono ?_
  rintro e w5 ⟨g5, e5, rfl, h1, h2, h3⟩
  have O5 := Hd.mk h1
  have O1c := Hd.mk (own_frame O3.out h3 (by simp))
  have F5 := Hd.mk (F3.out.trans h3 (by simp))
  clear h1 h2 h3
  go_wp2_with (fail)
  refine (same_any w5 _ _ (n + 4) (n + 4) e1 e5 (xs ++ tail4) (xs ++ tail4) _ _ (by rw [List.length_append, HN.out]; rfl) (by rw [List.length_append, HN.out]; rfl) (sl_of_own O1c.out) (sl_of_own O5.out) (by omega) (by omega)).mono ?_
  rintro e w6 ⟨rfl, h6⟩
  rw [decide_eq_true rfl]
  have F6 := Hd.mk (F5.out.trans h6 (by simp))
  clear h6
  go_wp2
  go_ret
  exact ⟨rfl, F6.out.below⟩
end Go.Proofs.Ytomiammdfiddbaa.Lens
