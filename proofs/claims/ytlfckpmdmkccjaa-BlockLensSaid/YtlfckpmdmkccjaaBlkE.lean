/- Chapter 09: the document's symbols of lengths and distances. No condition. -/
import Derived.Test.YtlfckpmdmkccjaaBlkD
set_option linter.unusedVariables false
set_option linter.unusedSimpArgs false
set_option maxRecDepth 100000
namespace Go.Proofs.Ytlfckpmdmkccjaa.Blk
open Go.RowKit Go.Proofs.Ytlfckpmdmkccjaa.Lib Go.Proofs.Ytlfckpmdmkccjaa.Ints
theorem sl_of_own2 {w : World} {e : TypeId} {g n c : Nat} {xs : List Value} (h : w.ownsRow 0 e 2 (.slice (some ⟨g, 0, none⟩) n c) n xs) : Sl w (some ⟨g, 0, none⟩) xs (some g) := by
  intro hx
  rcases h.2 with ⟨h', _⟩ | ⟨g', cap, cur, h', hb, hh, hnc, hcm, hcs, ht⟩
  · cases h'
  · injection h' with h1 h2 h3
    injection h1 with h1
    injection h1 with h1
    subst h1
    refine ⟨g, 0, rfl, rfl, fun j hj => ?_⟩
    rw [Nat.zero_add, blk_cell hh, ← ht, List.getElem?_take]
    have hl := h.1
    rw [if_pos (by omega)]
    simp
set_option maxHeartbeats 2000000 in
theorem rlenSymbol_any (w : World) (n : Int) : Calls Try.prog 16 #[.int .i64 n] w fun e w' => e = .returned (.tuple #[.int .i64 (symN lenT 257 3 258 n).1, .int .i64 (symN lenT 257 3 258 n).2.1, .int .i64 (symN lenT 257 3 258 n).2.2.1, .int .i64 (symN lenT 257 3 258 n).2.2.2]) ∧ Fr w w' [] := by
  by_cases h : n < 3 ∨ 258 < n
  · have hs : Hd (symN lenT 257 3 258 n = (0, 0, 0, 1)) := ⟨by unfold symN; rw [if_pos h]⟩
    go_enter Try.func16, Try.ntmps16
    by_cases h0 : n < 3
    · clear h
      go_wp2
      refine bodyPost_ret (results_tmp4 rfl _ _ _) rfl ?_
      rw [hs.out]
      exact ⟨rfl, Fr.refl _ _⟩
    · obtain h := h.resolve_left h0
      go_wp2
      refine bodyPost_ret (results_tmp4 rfl _ _ _) rfl ?_
      rw [hs.out]
      exact ⟨rfl, Fr.refl _ _⟩
  · have h1 : 3 ≤ n := by omega
    have h2 : n ≤ 258 := by omega
    clear h
    go_enter Try.func16, Try.ntmps16
    go_wp2_with (fail)
    refine (rLens_any w).mono ?_
    intro e w2 hp
    unfold RowsPost at hp
    obtain ⟨A, c, rfl, ho, hf⟩ := hp
    obtain ⟨g, c', e1, _⟩ := own_some ho (by decide)
    injection e1 with e1 _ e2
    subst e1 e2
    have F2 := Hd.mk hf
    have SL : Hd (Sl w2 (some ⟨g, 0, none⟩) (rcs lenT) (some g)) := ⟨sl_of_own2 ho⟩
    clear ho hf
    go_wp2_with (fail)
    refine (find_any w2 (some ⟨g, 0, none⟩) 29 c lenT (some g) n rfl SL.out (by decide)).mono ?_
    rintro e w3 ⟨rfl, h3⟩
    have F3 := Hd.mk (F2.out.trans h3 (by simp))
    have SL3 := Hd.mk (SL.out.frame h3 (by simp))
    clear h3 SL F2
    obtain ⟨i, hi⟩ : ∃ i, i = plc lenT n 29 := ⟨_, rfl⟩
    have hit : i < 29 := by rw [hi]; exact plc_lt lenT n 29 (by decide)
    have hs : Hd (symN lenT 257 3 258 n = (257 + ((i : Nat) : Int), (lenT.getD i (0, 0)).2, n - (lenT.getD i (0, 0)).1, 0)) := ⟨by unfold symN; rw [if_neg (by omega), show lenT.length = 29 from rfl, ← hi]⟩
    rw [← hi]
    have hx := lenT_le i hit
    obtain ⟨b0, o0, e1, _, hc⟩ := Sl.row (enc := rc) (sz := 2) (fun _ => rfl) SL3.out (show i < lenT.length from hit) (by decide)
    cases e1
    have hg : ∀ j : Nat, (rc (lenT[i]'hit))[j]? = (rc (lenT.getD i (0, 0)))[j]? := fun j => by rw [List.getD_eq_getElem?_getD, List.getElem?_eq_getElem (show i < lenT.length from hit)]; rfl
    have c0 := (hc 0 (by decide)).trans (hg 0)
    have c1 := (hc 1 (by decide)).trans (hg 1)
    obtain ⟨x, hxx⟩ : ∃ x, x = lenT.getD i (0, 0) := ⟨_, rfl⟩
    rw [← hxx] at c0 c1 hx hs
    simp only [rc, List.getElem?_cons_zero, List.getElem?_cons_succ, Nat.add_zero, Nat.zero_add] at c0 c1
    clear hc hg hxx hi
    go_upto_region 5 with (fail)
    go_region
    go_wp2
    refine bodyPost_ret (results_tmp4 rfl _ _ _) rfl ?_
    rw [hs.out]
    exact ⟨by go_num, F3.out.drew⟩
set_option maxHeartbeats 2000000 in
theorem rdistSymbol_any (w : World) (n : Int) : Calls Try.prog 18 #[.int .i64 n] w fun e w' => e = .returned (.tuple #[.int .i64 (symN distT 0 1 32768 n).1, .int .i64 (symN distT 0 1 32768 n).2.1, .int .i64 (symN distT 0 1 32768 n).2.2.1, .int .i64 (symN distT 0 1 32768 n).2.2.2]) ∧ Fr w w' [] := by
  by_cases h : n < 1 ∨ 32768 < n
  · have hs : Hd (symN distT 0 1 32768 n = (0, 0, 0, 1)) := ⟨by unfold symN; rw [if_pos h]⟩
    go_enter Try.func18, Try.ntmps18
    by_cases h0 : n < 1
    · clear h
      go_wp2
      refine bodyPost_ret (results_tmp4 rfl _ _ _) rfl ?_
      rw [hs.out]
      exact ⟨rfl, Fr.refl _ _⟩
    · obtain h := h.resolve_left h0
      go_wp2
      refine bodyPost_ret (results_tmp4 rfl _ _ _) rfl ?_
      rw [hs.out]
      exact ⟨rfl, Fr.refl _ _⟩
  · have h1 : 1 ≤ n := by omega
    have h2 : n ≤ 32768 := by omega
    clear h
    go_enter Try.func18, Try.ntmps18
    go_wp2_with (fail)
    refine (rDists_any w).mono ?_
    intro e w2 hp
    unfold RowsPost at hp
    obtain ⟨A, c, rfl, ho, hf⟩ := hp
    obtain ⟨g, c', e1, _⟩ := own_some ho (by decide)
    injection e1 with e1 _ e2
    subst e1 e2
    have F2 := Hd.mk hf
    have SL : Hd (Sl w2 (some ⟨g, 0, none⟩) (rcs distT) (some g)) := ⟨sl_of_own2 ho⟩
    clear ho hf
    go_wp2_with (fail)
    refine (find_any w2 (some ⟨g, 0, none⟩) 30 c distT (some g) n rfl SL.out (by decide)).mono ?_
    rintro e w3 ⟨rfl, h3⟩
    have F3 := Hd.mk (F2.out.trans h3 (by simp))
    have SL3 := Hd.mk (SL.out.frame h3 (by simp))
    clear h3 SL F2
    obtain ⟨i, hi⟩ : ∃ i, i = plc distT n 30 := ⟨_, rfl⟩
    have hit : i < 30 := by rw [hi]; exact plc_lt distT n 30 (by decide)
    have hs : Hd (symN distT 0 1 32768 n = (0 + ((i : Nat) : Int), (distT.getD i (0, 0)).2, n - (distT.getD i (0, 0)).1, 0)) := ⟨by unfold symN; rw [if_neg (by omega), show distT.length = 30 from rfl, ← hi]⟩
    rw [← hi]
    have hx := distT_le i hit
    obtain ⟨b0, o0, e1, _, hc⟩ := Sl.row (enc := rc) (sz := 2) (fun _ => rfl) SL3.out (show i < distT.length from hit) (by decide)
    cases e1
    have hg : ∀ j : Nat, (rc (distT[i]'hit))[j]? = (rc (distT.getD i (0, 0)))[j]? := fun j => by rw [List.getD_eq_getElem?_getD, List.getElem?_eq_getElem (show i < distT.length from hit)]; rfl
    have c0 := (hc 0 (by decide)).trans (hg 0)
    have c1 := (hc 1 (by decide)).trans (hg 1)
    obtain ⟨x, hxx⟩ : ∃ x, x = distT.getD i (0, 0) := ⟨_, rfl⟩
    rw [← hxx] at c0 c1 hx hs
    simp only [rc, List.getElem?_cons_zero, List.getElem?_cons_succ, Nat.add_zero, Nat.zero_add] at c0 c1
    clear hc hg hxx hi
    go_upto_region 5 with (fail)
    go_region
    go_wp2
    refine bodyPost_ret (results_tmp4 rfl _ _ _) rfl ?_
    rw [hs.out]
    exact ⟨by simp, F3.out.drew⟩
end Go.Proofs.Ytlfckpmdmkccjaa.Blk
