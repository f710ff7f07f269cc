/- LensCosts' walk. Conditions: none but what memory bounds. -/
import Derived.Test.YtomiammdfiddbaaLensCost
set_option linter.unusedVariables false
set_option linter.unusedSimpArgs false
set_option maxRecDepth 100000
namespace Go.Proofs.Ytomiammdfiddbaa.Lens
open Go.RowKit Go.Proofs.Ytomiammdfiddbaa.Lib Go.Proofs.Ytomiammdfiddbaa.Ints

theorem num_any (w : World) (a : Int) : Calls Try.prog 14 #[.int .i64 a] w fun e w' => e = .returned (.int .i64 a) ∧ w = w' := by
  go_enter Try.func14, Try.ntmps14
  go_wp2
  go_ret
  exact ⟨rfl, rfl⟩
theorem own_take {w : World} {g d n : Nat} {xs : List Int} (h : w.ownsRow 0 3 1 (.slice (some ⟨g, 0, none⟩) (n + 4) d) (n + 4) (i64s (xs ++ tail4))) (hn : xs.length = n) : Sl w (some ⟨g, 0, none⟩) (i64s xs) (some g) := by
  have := (sl_of_own h).take n
  rw [i64s_app, List.take_left' (by simp [i64s]; exact hn)] at this
  exact this
set_option maxHeartbeats 4000000 in
theorem costs_law (A : Option Addr) (n c : Nat) (xs : List Int) (p : Option Nat) (B : Option Addr) (m d : Nat) (ys : List Int) (q : Option Nat) (W : World)
    (hS : SlArg W A n c (i64s xs) p) (hw1 : ∀ x ∈ xs, (Lit.int .i64 x).wf = true) (hy1 : n * 8 ≤ 140737488351232) (hT : SlArg W B m d (i64s ys) q) (hw2 : ∀ x ∈ ys, (Lit.int .i64 x).wf = true) (hy2 : m * 8 ≤ 140737488351232) :
    Calls Try.prog 3 #[.slice A n c, .slice B m d] W fun e w' => e = .returned (.bool true) ∧ Below W.heap.size W w' := by
  have HS := Hd.mk hS
  have HT := Hd.mk hT
  have hln : xs.length = n := by have := hS.len; simpa [i64s] using this
  have hlm : ys.length = m := by have := hT.len; simpa [i64s] using this
  have HN := Hd.mk hln
  have HM := Hd.mk hlm
  clear hS hT hw1 hw2 hln hlm
  go_enter Try.func3, Try.ntmps3
  go_wp2_with (fail)
  refine (lend_any W A n c xs p HS.out (by omega)).mono ?_
  rintro e w1 ⟨g, e1, rfl, h1, h2, h3⟩
  have O1 := Hd.mk h1
  have F1 := Hd.mk h3
  have hd1 : n + 4 ≤ e1 := by obtain ⟨_, _, e, hh, _⟩ := own_slice h1; cases e; exact hh
  clear h1 h2 h3
  go_wp2_with (fail)
  refine (lend_any w1 B m d ys q (HT.out.frame F1.out (by simp)) (by omega)).mono ?_
  rintro e w2 ⟨g2, e2, rfl, h1, h2, h3⟩
  have O2 := Hd.mk h1
  have O1' := Hd.mk (own_frame O1.out h3 (by simp))
  have F2 := Hd.mk (F1.out.trans h3 (by simp))
  have hd2 : m + 4 ≤ e2 := by obtain ⟨_, _, e, hh, _⟩ := own_slice h1; cases e; exact hh
  clear h1 h2 h3
  obtain ⟨cv, hcv⟩ : ∃ cv, cv = (costN xs ys).1 := ⟨_, rfl⟩
  obtain ⟨ce, hce⟩ : ∃ ce, ce = (costN xs ys).2 := ⟨_, rfl⟩
  have HCV := Hd.mk hcv
  have HCE := Hd.mk hce
  clear hcv hce
  go_upto_region 2 with (fail)
  go_cut [7, 8] (fun s7 s8 wc => s7 = .int .i64 cv ∧ s8 = .int .i64 ce ∧ Hd (Fr w2 wc []))
  case first =>
    go_region_with (first | (go_at_call 12; refine (ccost_any _ (some ⟨g, 0, none⟩) (some ⟨g2, 0, none⟩) n m _ _ xs ys (some g) (some g2) HN.out HM.out (by exact own_take O1'.out HN.out) (by exact own_take O2.out HM.out) (by omega) (by omega)).mono ?_; rintro e w3 ⟨rfl, hf⟩; have F3 := Hd.mk hf; clear hf))
    all_goals (rw [← HCV.out, ← HCE.out]; go_wp2; go_meet; exact ⟨rfl, rfl, ⟨F3.out.ofDrew⟩⟩)
  obtain ⟨rfl, rfl, F3⟩ := hcut
  have O1a := Hd.mk (own_frame O1'.out F3.out (by simp))
  have O2a := Hd.mk (own_frame O2.out F3.out (by simp))
  have F3a := Hd.mk (F2.out.trans F3.out (by simp))
  go_wp2_with (fail)
  refine (rcost_any wc A B n m c d xs ys p q HN.out HM.out (HS.out.sl.frame F3a.out (by simp)) (HT.out.sl.frame F3a.out (by simp)) (by omega) (by omega)).mono ?_
  rintro e w4 ⟨rfl, h4⟩
  rw [← HCV.out, ← HCE.out]
  have O1b := Hd.mk (own_frame O1a.out h4 (by simp))
  have O2b := Hd.mk (own_frame O2a.out h4 (by simp))
  have F4 := Hd.mk (F3a.out.trans h4 (by simp))
  clear h4
  go_wp2_with (fail)
  refine (num_any w4 ce).mono ?_
  rintro e w4' ⟨rfl, rfl⟩
  go_wp2_with (fail)
  refine (lend_any w4 A n c xs p (HS.out.frame F4.out (by simp)) (by omega)).mono ?_
  rintro e w5 ⟨g5, e5, rfl, h1, h2, h3⟩
  have O5 := Hd.mk h1
  have O1c := Hd.mk (own_frame O1b.out h3 (by simp))
  have O2c := Hd.mk (own_frame O2b.out h3 (by simp))
  have F5 := Hd.mk (F4.out.trans h3 (by simp))
  clear h1 h2 h3
  go_wp2_with (fail)
  refine (same_any w5 _ _ (n + 4) (n + 4) e1 e5 (xs ++ tail4) (xs ++ tail4) _ _ (by rw [List.length_append, HN.out]; rfl) (by rw [List.length_append, HN.out]; rfl) (sl_of_own O1c.out) (sl_of_own O5.out) (by omega) (by omega)).mono ?_
  rintro e w6 ⟨rfl, h6⟩
  rw [decide_eq_true rfl]
  have O2d := Hd.mk (own_frame O2c.out h6 (by simp))
  have F6 := Hd.mk (F5.out.trans h6 (by simp))
  clear h6
  go_wp2_with (fail)
  refine (lend_any w6 B m d ys q (HT.out.frame F6.out (by simp)) (by omega)).mono ?_
  rintro e w7 ⟨g7, e7, rfl, h1, h2, h3⟩
  have O7 := Hd.mk h1
  have O2e := Hd.mk (own_frame O2d.out h3 (by simp))
  have F7 := Hd.mk (F6.out.trans h3 (by simp))
  clear h1 h2 h3
  go_wp2_with (fail)
  refine (same_any w7 _ _ (m + 4) (m + 4) e2 e7 (ys ++ tail4) (ys ++ tail4) _ _ (by rw [List.length_append, HM.out]; rfl) (by rw [List.length_append, HM.out]; rfl) (sl_of_own O2e.out) (sl_of_own O7.out) (by omega) (by omega)).mono ?_
  rintro e w8 ⟨rfl, h8⟩
  rw [decide_eq_true rfl]
  have F8 := Hd.mk (F7.out.trans h8 (by simp))
  clear h8
  go_wp2
  go_ret
  exact ⟨rfl, F8.out.below⟩
end Go.Proofs.Ytomiammdfiddbaa.Lens
