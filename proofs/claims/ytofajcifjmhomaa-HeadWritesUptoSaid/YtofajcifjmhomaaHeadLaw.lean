/- What HeadRuns asks besides: alike, awake. Conditions: none but what memory bounds. -/
import Derived.Test.YtofajcifjmhomaaHeadRuns2
set_option linter.unusedVariables false
set_option linter.unusedSimpArgs false
set_option maxRecDepth 100000
namespace Go.Proofs.Ytofajcifjmhomaa.Head
open Go.RowKit Go.Proofs.Ytofajcifjmhomaa.Lib Go.Proofs.Ytofajcifjmhomaa.Ints Go.Proofs.Ytofajcifjmhomaa.Runs

theorem num_any (w : World) (a : Int) : Calls Try.prog 15 #[.int .i64 a] w fun e w' => e = .returned (.int .i64 a) ∧ w = w' := by
  go_enter Try.func15, Try.ntmps15
  go_wp2
  go_ret
  exact ⟨rfl, rfl⟩
theorem own_take {w : World} {g d n : Nat} {xs : List Int} (h : w.ownsRow 0 3 1 (.slice (some ⟨g, 0, none⟩) (n + 4) d) (n + 4) (i64s (xs ++ tail4))) (hn : xs.length = n) : Sl w (some ⟨g, 0, none⟩) (i64s xs) (some g) := by
  have := (sl_of_own h).take n
  rw [i64s_app, List.take_left' (by simp [i64s]; exact hn)] at this
  exact this
theorem sl_of_owns {w : World} {base : Nat} {e : TypeId} {A : Option Addr} {n c : Nat} {rs : List (Int × Int)} (h : w.ownsRow base e 2 (.slice A n c) n (cells rs)) : Sl w A (cells rs) (Value.slice A n c).ownBlock := by
  by_cases hn : 0 < n
  · exact sl_of_own2 h hn
  · have h1 := h.1
    rw [cells_len] at h1
    have : rs = [] := List.eq_nil_of_length_eq_zero (by omega)
    subst this
    exact Sl.nil _ _ _
theorem alike_any (w : World) (A B : Option Addr) (n m c d : Nat) (rs ss : List (Int × Int)) (p q : Option Nat) (hn : rs.length = n) (hm : ss.length = m) (hS : Sl w A (cells rs) p) (hT : Sl w B (cells ss) q) (hn1 : n ≤ 4611686018427387904) (hm1 : m ≤ 4611686018427387904) :
    Calls Try.prog 16 #[.slice A n c, .slice B m d] w fun e w' => e = .returned (.bool (decide (rs = ss))) ∧ Fr w w' [] := by
  subst hn hm
  have HS := Hd.mk hS
  have HT := Hd.mk hT
  clear hS hT
  go_enter Try.func16, Try.ntmps16
  go_wp2
  go_loopg [5] (min rs.length ss.length) (fun kq jv wr => ∃ j : Nat, jv = .int .i64 (j : Nat) ∧ j + kq = min rs.length ss.length ∧ Hd (rs.take j = ss.take j) ∧ Hd (Fr w wr []))
  case atStart => exact ⟨0, rfl, by omega, ⟨rfl⟩, ⟨Fr.refl _ _⟩⟩
  case round =>
    obtain ⟨j, rfl, hj, HE, HF⟩ := hrel
    by_cases h1 : j < rs.length
    · by_cases h2 : j < ss.length
      · obtain ⟨a, o1, rfl, _, ha⟩ := Sl.row (enc := enc) (sz := 2) (fun _ => rfl) (HS.out.frame HF.out (by simp)) h1 (by decide)
        obtain ⟨b, o2, rfl, _, hb⟩ := Sl.row (enc := enc) (sz := 2) (fun _ => rfl) (HT.out.frame HF.out (by simp)) h2 (by decide)
        obtain ⟨x, hx⟩ : ∃ x, x = rs[j] := ⟨_, rfl⟩
        obtain ⟨y, hy⟩ : ∃ y, y = ss[j] := ⟨_, rfl⟩
        rw [← hx] at ha
        rw [← hy] at hb
        have ca := ha 0 (by decide)
        have ca1 := ha 1 (by decide)
        have cb := hb 0 (by decide)
        have cb1 := hb 1 (by decide)
        obtain ⟨xa, xb⟩ := x
        obtain ⟨ya, yb⟩ := y
        simp only [enc, List.getElem?_cons_zero, List.getElem?_cons_succ, Nat.add_zero] at ca ca1 cb cb1
        have HX := Hd.mk hx
        have HY := Hd.mk hy
        clear ha hb hx hy
        by_cases hxa : xa = ya
        · subst hxa
          by_cases hxb : xb = yb
          · subst hxb
            have e1 : (xa == xa) = true := by simp
            have e2 : (xb == xb) = true := by simp
            go_wp2
            go_quiet (fail)
            go_wp2
            go_roundg (gk - 1)
            case measure => omega
            case rel => exact ⟨j + 1, by go_num, by omega, ⟨by rw [List.take_succ_eq_append_getElem h1, List.take_succ_eq_append_getElem h2, HE.out, ← HX.out, ← HY.out]⟩, ⟨HF.out.drewN _⟩⟩
          · have e1 : (xa == xa) = true := by simp
            have e2 : (xb == yb) = false := by simpa using hxb
            go_wp2
            go_quiet (fail)
            go_wp2
            go_ret
            have : ¬ rs = ss := by
              rintro rfl
              exact hxb (congrArg Prod.snd (HX.out.trans HY.out.symm))
            rw [decide_eq_false this]
            exact ⟨rfl, HF.out.drewN _⟩
        · have e1 : (xa == ya) = false := by simpa using hxa
          go_wp2
          go_quiet (fail)
          go_wp2
          go_ret
          have : ¬ rs = ss := by
            rintro rfl
            exact hxa (congrArg Prod.fst (HX.out.trans HY.out.symm))
          rw [decide_eq_false this]
          exact ⟨rfl, HF.out.drewN _⟩
      · have hne : ((rs.length : Int) == (ss.length : Int)) = false := by simp; omega
        have : ¬ rs = ss := by rintro rfl; omega
        go_wp2
        go_ret
        rw [decide_eq_false this]
        exact ⟨rfl, HF.out⟩
    · by_cases h3 : rs.length = ss.length
      · have hne : ((rs.length : Int) == (ss.length : Int)) = true := by simp; omega
        have : rs = ss := by
          have := HE.out
          rwa [List.take_of_length_le (by omega), List.take_of_length_le (by omega)] at this
        go_wp2
        go_ret
        rw [decide_eq_true this]
        exact ⟨rfl, HF.out⟩
      · have hne : ((rs.length : Int) == (ss.length : Int)) = false := by simp; omega
        have : ¬ rs = ss := by rintro rfl; omega
        go_wp2
        go_ret
        rw [decide_eq_false this]
        exact ⟨rfl, HF.out⟩
theorem awake_runs : (if bad [5, 5, 5, 5] then [] else runs [5, 5, 5, 5]) = [(5, 1), (16, 3)] ∧ (if bad [5, 5, 5, 5] then (80 : Int) else 0) = 0 := by decide
theorem awake_any (w : World) : Calls Try.prog 18 #[] w fun e w' => e = .returned (.bool true) ∧ Fr w w' [] := by
  go_enter Try.func18, Try.ntmps18
  go_wp2_with (fail)
  refine (runs_any _ (some ⟨w.heap.size, 0, none⟩) 4 4 [5, 5, 5, 5] (some w.heap.size) rfl (Nat.le_refl _) (by exact sl_of_blk (blk_new _ _)) (by intro h; cases h) (by decide) 0 [(5, 1), (16, 3)] (awake_runs.2.symm) (awake_runs.1.symm)).mono ?_
  rintro e w1 ⟨A, m, d, rfl, h1, h2, h3⟩
  have hm : m = 2 := by have := h1.1; simp [cells, enc] at this; omega
  subst hm
  obtain ⟨g, d', e1, hd⟩ := own_some h1 (by decide)
  injection e1 with e1 _ e2
  subst e1 e2
  have c0 := h1.cellAt 0 (by decide)
  have c1 := h1.cellAt 1 (by decide)
  have c2 := h1.cellAt 2 (by decide)
  have c3 := h1.cellAt 3 (by decide)
  have F1 := Hd.mk (((Fr.refl w []).alloc _).trans h3 (by simp))
  simp only [cells, enc, List.flatMap_cons, List.flatMap_nil, List.cons_append, List.nil_append, List.append_nil, List.getElem?_cons_zero, List.getElem?_cons_succ] at c0 c1 c2 c3
  clear h1 h2 h3
  go_wp2
  go_ret
  exact ⟨rfl, F1.out⟩
end Go.Proofs.Ytofajcifjmhomaa.Head
