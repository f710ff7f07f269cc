/- Chapter 09: symbols of lengths and distances. No condition. -/
import Derived.Test.YtlfckpmdmkccjaaBlkC
set_option linter.unusedVariables false
set_option linter.unusedSimpArgs false
set_option maxRecDepth 100000
namespace Go.Proofs.Ytlfckpmdmkccjaa.Blk
open Go.RowKit Go.Proofs.Ytlfckpmdmkccjaa.Lib Go.Proofs.Ytlfckpmdmkccjaa.Ints
/-- symbol, how many more bits, these, the error -/
def symN (l : List (Int × Int)) (base lo hi n : Int) : Int × Int × Int × Int :=
  if n < lo ∨ hi < n then (0, 0, 0, 1) else (base + (plc l n l.length : Nat), (l.getD (plc l n l.length) (0, 0)).2, n - (l.getD (plc l n l.length) (0, 0)).1, 0)
theorem lenT_le : ∀ i, i < 29 → 0 ≤ (lenT.getD i (0, 0)).1 ∧ (lenT.getD i (0, 0)).1 ≤ 258 ∧ 0 ≤ (lenT.getD i (0, 0)).2 ∧ (lenT.getD i (0, 0)).2 ≤ 5 := by decide
theorem results_tmp4 {fn : Func} {t u v x : Tmp} (h : fn.results = #[.tmp t, .tmp u, .tmp v, .tmp x]) (tmps : Array Value) (P : Program) (w : World) :
    (results fn tmps).run P w = .ok (.tuple #[tmps.getD t undef, tmps.getD u undef, tmps.getD v undef, tmps.getD x undef]) w := by
  simp [results, h]
set_option maxHeartbeats 2000000 in
theorem lenSymbol_any (w : World) (n : Int) : Calls Try.prog 15 #[.int .i64 n] w fun e w' => e = .returned (.tuple #[.int .i64 (symN lenT 257 3 258 n).1, .int .i64 (symN lenT 257 3 258 n).2.1, .int .i64 (symN lenT 257 3 258 n).2.2.1, .int .i64 (symN lenT 257 3 258 n).2.2.2]) ∧ Fr w w' [] := by
  by_cases h : n < 3 ∨ 258 < n
  · have hs : Hd (symN lenT 257 3 258 n = (0, 0, 0, 1)) := ⟨by unfold symN; rw [if_pos h]⟩
    go_enter Try.func15, Try.ntmps15
    by_cases h0 : n < 3
    · clear h
      go_wp2
      refine bodyPost_ret (results_tmp4 rfl _ _ _) rfl ?_
      rw [hs.out]
      exact ⟨rfl, Fr.refl _ _⟩
    · obtain h := h.resolve_left h0
      go_wp2
      refine bodyPost_ret (results_tmp4 rfl _ _ _) rfl ?_
      rw [hs.out]
      exact ⟨rfl, Fr.refl _ _⟩
  · have h1 : 3 ≤ n := by omega
    have h2 : n ≤ 258 := by omega
    clear h
    go_enter Try.func15, Try.ntmps15
    go_upto_region 4 with (first
      | (go_at_call 32; refine (lenRows_any w).mono ?_; rintro e w1 ⟨rfl, hf⟩; have F1 := Hd.mk hf; clear hf)
      | (refine wpList_store_row rfl 79 _ _ rfl w1.heap.size (rcs lenT).toArray rfl rfl 79 _ (by exact blk_new w1 _) (by kernel_rfl) (by kernel_rfl) (by kernel_rfl) ?_))
    obtain ⟨w2, hw2⟩ : ∃ w2, w2 = (w1.alloc (.cells #[.int .i64 0, .int .i64 0, .int .i64 0, .int .i64 0, .int .i64 0, .int .i64 0, .int .i64 0, .int .i64 0, .int .i64 0, .int .i64 0, .int .i64 0, .int .i64 0, .int .i64 0, .int .i64 0, .int .i64 0, .int .i64 0, .int .i64 0, .int .i64 0, .int .i64 0, .int .i64 0, .int .i64 0, .int .i64 0, .int .i64 0, .int .i64 0, .int .i64 0, .int .i64 0, .int .i64 0, .int .i64 0, .int .i64 0, .int .i64 0, .int .i64 0, .int .i64 0, .int .i64 0, .int .i64 0, .int .i64 0, .int .i64 0, .int .i64 0, .int .i64 0, .int .i64 0, .int .i64 0, .int .i64 0, .int .i64 0, .int .i64 0, .int .i64 0, .int .i64 0, .int .i64 0, .int .i64 0, .int .i64 0, .int .i64 0, .int .i64 0, .int .i64 0, .int .i64 0, .int .i64 0, .int .i64 0, .int .i64 0, .int .i64 0, .int .i64 0, .int .i64 0] 79)).setRow w1.heap.size (rcs lenT).toArray := ⟨_, rfl⟩
    have HB : Hd (w2.heap[w1.heap.size]? = some (.cells (rcs lenT).toArray 79 (0, 0))) := ⟨by rw [hw2]; exact setRow_heap _ _ _ _ _ _ (blk_new w1 _)⟩
    have F2 : Hd (Fr w w2 []) := ⟨by rw [hw2]; exact Code.Fr.setRow (F1.out.alloc _) _ (.inr F1.out.size)⟩
    rw [← hw2]
    clear hw2
    generalize w1.heap.size = g at *
    have SL := Hd.mk (sl_of_blk HB.out)
    go_wp2_with (fail)
    refine (place_any w2 (some ⟨g, 0, none⟩) 29 29 lenT (some g) n rfl SL.out (by decide)).mono ?_
    rintro e w3 ⟨rfl, h3⟩
    have F3 := Hd.mk (F2.out.trans h3 (by simp))
    have HB3 := Hd.mk (h3.blk HB.out (by simp))
    clear h3 HB SL F2
    obtain ⟨i, hi⟩ : ∃ i, i = plc lenT n 29 := ⟨_, rfl⟩
    have hi29 : i < 29 := by rw [hi]; exact plc_lt lenT n 29 (by decide)
    have hs : Hd (symN lenT 257 3 258 n = (257 + ((i : Nat) : Int), (lenT.getD i (0, 0)).2, n - (lenT.getD i (0, 0)).1, 0)) := ⟨by unfold symN; rw [if_neg (by omega), show lenT.length = 29 from rfl, ← hi]⟩
    rw [← hi]
    have hx := lenT_le i hi29
    obtain ⟨b0, o0, e1, _, hc⟩ := Sl.row (enc := rc) (sz := 2) (fun _ => rfl) (sl_of_blk HB3.out) (show i < lenT.length from hi29) (by decide)
    cases e1
    have hg : ∀ j : Nat, (rc (lenT[i]'hi29))[j]? = (rc (lenT.getD i (0, 0)))[j]? := fun j => by rw [List.getD_eq_getElem?_getD, List.getElem?_eq_getElem (show i < lenT.length from hi29)]; rfl
    have c0 := (hc 0 (by decide)).trans (hg 0)
    have c1 := (hc 1 (by decide)).trans (hg 1)
    obtain ⟨x, hxx⟩ : ∃ x, x = lenT.getD i (0, 0) := ⟨_, rfl⟩
    rw [← hxx] at c0 c1 hx hs
    simp only [rc, List.getElem?_cons_zero, List.getElem?_cons_succ, Nat.add_zero, Nat.zero_add] at c0 c1
    clear hc hg hxx hi
    go_upto_region 5 with (fail)
    go_region
    go_wp2
    refine bodyPost_ret (results_tmp4 rfl _ _ _) rfl ?_
    rw [hs.out]
    exact ⟨by go_num, F3.out.drew⟩
theorem distT_le : ∀ i, i < 30 → 0 ≤ (distT.getD i (0, 0)).1 ∧ (distT.getD i (0, 0)).1 ≤ 24577 ∧ 0 ≤ (distT.getD i (0, 0)).2 ∧ (distT.getD i (0, 0)).2 ≤ 13 := by decide
set_option maxHeartbeats 2000000 in
theorem distSymbol_any (w : World) (n : Int) : Calls Try.prog 17 #[.int .i64 n] w fun e w' => e = .returned (.tuple #[.int .i64 (symN distT 0 1 32768 n).1, .int .i64 (symN distT 0 1 32768 n).2.1, .int .i64 (symN distT 0 1 32768 n).2.2.1, .int .i64 (symN distT 0 1 32768 n).2.2.2]) ∧ Fr w w' [] := by
  by_cases h : n < 1 ∨ 32768 < n
  · have hs : Hd (symN distT 0 1 32768 n = (0, 0, 0, 1)) := ⟨by unfold symN; rw [if_pos h]⟩
    go_enter Try.func17, Try.ntmps17
    by_cases h0 : n < 1
    · clear h
      go_wp2
      refine bodyPost_ret (results_tmp4 rfl _ _ _) rfl ?_
      rw [hs.out]
      exact ⟨rfl, Fr.refl _ _⟩
    · obtain h := h.resolve_left h0
      go_wp2
      refine bodyPost_ret (results_tmp4 rfl _ _ _) rfl ?_
      rw [hs.out]
      exact ⟨rfl, Fr.refl _ _⟩
  · have h1 : 1 ≤ n := by omega
    have h2 : n ≤ 32768 := by omega
    clear h
    go_enter Try.func17, Try.ntmps17
    go_upto_region 4 with (first
      | (go_at_call 35; refine (distRows_any w).mono ?_; rintro e w1 ⟨rfl, hf⟩; have F1 := Hd.mk hf; clear hf)
      | (refine wpList_store_row rfl 84 _ _ rfl w1.heap.size (rcs distT).toArray rfl rfl 84 _ (by exact blk_new w1 _) (by kernel_rfl) (by kernel_rfl) (by kernel_rfl) ?_))
    obtain ⟨w2, hw2⟩ : ∃ w2, w2 = (w1.alloc (.cells #[.int .i64 0, .int .i64 0, .int .i64 0, .int .i64 0, .int .i64 0, .int .i64 0, .int .i64 0, .int .i64 0, .int .i64 0, .int .i64 0, .int .i64 0, .int .i64 0, .int .i64 0, .int .i64 0, .int .i64 0, .int .i64 0, .int .i64 0, .int .i64 0, .int .i64 0, .int .i64 0, .int .i64 0, .int .i64 0, .int .i64 0, .int .i64 0, .int .i64 0, .int .i64 0, .int .i64 0, .int .i64 0, .int .i64 0, .int .i64 0, .int .i64 0, .int .i64 0, .int .i64 0, .int .i64 0, .int .i64 0, .int .i64 0, .int .i64 0, .int .i64 0, .int .i64 0, .int .i64 0, .int .i64 0, .int .i64 0, .int .i64 0, .int .i64 0, .int .i64 0, .int .i64 0, .int .i64 0, .int .i64 0, .int .i64 0, .int .i64 0, .int .i64 0, .int .i64 0, .int .i64 0, .int .i64 0, .int .i64 0, .int .i64 0, .int .i64 0, .int .i64 0, .int .i64 0, .int .i64 0] 84)).setRow w1.heap.size (rcs distT).toArray := ⟨_, rfl⟩
    have HB : Hd (w2.heap[w1.heap.size]? = some (.cells (rcs distT).toArray 84 (0, 0))) := ⟨by rw [hw2]; exact setRow_heap _ _ _ _ _ _ (blk_new w1 _)⟩
    have F2 : Hd (Fr w w2 []) := ⟨by rw [hw2]; exact Code.Fr.setRow (F1.out.alloc _) _ (.inr F1.out.size)⟩
    rw [← hw2]
    clear hw2
    generalize w1.heap.size = g at *
    have SL := Hd.mk (sl_of_blk HB.out)
    go_wp2_with (fail)
    refine (place_any w2 (some ⟨g, 0, none⟩) 30 30 distT (some g) n rfl SL.out (by decide)).mono ?_
    rintro e w3 ⟨rfl, h3⟩
    have F3 := Hd.mk (F2.out.trans h3 (by simp))
    have HB3 := Hd.mk (h3.blk HB.out (by simp))
    clear h3 HB SL F2
    obtain ⟨i, hi⟩ : ∃ i, i = plc distT n 30 := ⟨_, rfl⟩
    have hi30 : i < 30 := by rw [hi]; exact plc_lt distT n 30 (by decide)
    have hs : Hd (symN distT 0 1 32768 n = (0 + ((i : Nat) : Int), (distT.getD i (0, 0)).2, n - (distT.getD i (0, 0)).1, 0)) := ⟨by unfold symN; rw [if_neg (by omega), show distT.length = 30 from rfl, ← hi]⟩
    rw [← hi]
    have hx := distT_le i hi30
    obtain ⟨b0, o0, e1, _, hc⟩ := Sl.row (enc := rc) (sz := 2) (fun _ => rfl) (sl_of_blk HB3.out) (show i < distT.length from hi30) (by decide)
    cases e1
    have hg : ∀ j : Nat, (rc (distT[i]'hi30))[j]? = (rc (distT.getD i (0, 0)))[j]? := fun j => by rw [List.getD_eq_getElem?_getD, List.getElem?_eq_getElem (show i < distT.length from hi30)]; rfl
    have c0 := (hc 0 (by decide)).trans (hg 0)
    have c1 := (hc 1 (by decide)).trans (hg 1)
    obtain ⟨x, hxx⟩ : ∃ x, x = distT.getD i (0, 0) := ⟨_, rfl⟩
    rw [← hxx] at c0 c1 hx hs
    simp only [rc, List.getElem?_cons_zero, List.getElem?_cons_succ, Nat.add_zero, Nat.zero_add] at c0 c1
    clear hc hg hxx hi
    go_upto_region 5 with (fail)
    go_region
    go_wp2
    refine bodyPost_ret (results_tmp4 rfl _ _ _) rfl ?_
    rw [hs.out]
    exact ⟨by simp, F3.out.drew⟩
end Go.Proofs.Ytlfckpmdmkccjaa.Blk
