/- The law's own lend, same and kept. Conditions: fewer than 2^44 numbers. -/
import Derived.Test.YtncjckhcellehaaInts
import Derived.WalkSpells
set_option linter.unusedVariables false
set_option linter.unusedSimpArgs false
set_option maxRecDepth 100000
namespace Go.Proofs.Ytncjckhcellehaa.Code
open Go.RowKit Go.Proofs.Ytncjckhcellehaa.Lib Go.Proofs.Ytncjckhcellehaa.Ints

def tail3 : List Int := [71, 72, 73]
theorem llend_any (w : World) (A : Option Addr) (l c : Nat) (xs : List Int) (q : Option Nat) (hS : SlArg w A l c (i64s xs) q) (hy : l * 8 ≤ 140737488355000) :
    Calls Try.prog 11 #[.slice A l c] w fun e w' => ∃ g d, e = .returned (.tuple #[.slice (some ⟨g, 0, none⟩) (l + 3) d, .slice (some ⟨g, 0, none⟩) l d]) ∧
      w'.ownsRow 0 3 1 (.slice (some ⟨g, 0, none⟩) (l + 3) d) (l + 3) (i64s (xs ++ tail3)) ∧ w.heap.size ≤ g ∧ Fr w w' [] := by
  obtain ⟨i0, hi0, hz0, hz1, hz2⟩ := info_parts infoI64
  have hl : xs.length = l := by have := hS.len; simpa [i64s] using this
  subst hl
  have HS := Hd.mk (hS.sl.alloc (.cells #[] 3))
  have HN := Hd.mk hS.nil
  clear hS
  go_enter Try.func11, Try.ntmps11
  go_wp2_with (at_builtin; refine wpList_append_sl rfl (.tmp 5) (.tmp 6) 23 rfl 3 i0 (.int .i64 0) 1 8 Try.underlying23 hi0 hz0 hz1 hz2 rfl (by decide) (.slice (some ⟨w.heap.size, 0, none⟩) 0 0) 0 [] rfl ?c0 A xs.length c _ _ rfl ?c4 HS.out HN.out ?c1 ?c2 ?c3 ?_)
  case c0 => exact World.ownsRow_lit w #[] 0 (Nat.zero_le _) (Nat.zero_le _) rfl
  case c4 => simp [i64s]
  case c1 => exact i64s_one xs
  case c2 => unfold maxLen; omega
  case c3 => omega
  intro A1 c1 w1 hown1 hgrow1 haft1
  have H1 := Hd.mk hown1
  have G1 := Hd.mk hgrow1
  have F1 := Hd.mk haft1
  clear hown1 hgrow1 haft1
  go_wp2_with (at_builtin; refine wpList_append_sl rfl (.tmp 7) (.tmp 8) 23 rfl 3 i0 (.int .i64 0) 1 8 Try.underlying23 hi0 hz0 hz1 hz2 rfl (by decide) (.slice A1 xs.length c1) xs.length _ rfl (by exact H1.out.alloc _) (some ⟨w1.heap.size, 0, none⟩) 3 3 [.int .i64 71, .int .i64 72, .int .i64 73] (some w1.heap.size) rfl rfl (by exact sl_of_blk (blk_new _ _)) (by intro h; cases h) ?d1 ?d2 ?d3 ?_)
  case d1 => intro u hu; simp at hu; rcases hu with rfl | rfl | rfl <;> rfl
  case d2 => unfold maxLen; omega
  case d3 => omega
  intro A2 c2 w2 hown2 hgrow2 haft2
  have hf2 : ∀ k, (Value.slice A2 (xs.length + 3) c2).ownBlock = some k → w.heap.size ≤ k := by
    intro k hk
    have h0 : w.heap.size ≤ w1.heap.size := by have := G1.out.size; simp at this; omega
    rcases haft2 with e | ⟨j, e, hj⟩
    · rw [e] at hk
      rcases F1.out with e1 | ⟨j1, e1, hj1⟩
      · rw [hk] at e1; simp [Value.ownBlock] at e1; omega
      · rw [hk] at e1; cases e1; simp at hj1; omega
    · rw [hk] at e; cases e; simp at hj; omega
  obtain ⟨g, d, e2, hd⟩ := own_some hown2 (by omega)
  have hA2 : A2 = some ⟨g, 0, none⟩ ∧ c2 = d := by injection e2 with a1 _ a2; exact ⟨a1, a2⟩
  obtain ⟨rfl, rfl⟩ := hA2
  have hg := hf2 g rfl
  have hfr : Fr w w2 [] := by
    have a1 := ((Fr.refl w []).alloc (.cells #[] 3)).grown G1.out (fun k hk => .inr (by simp [Value.ownBlock] at hk; omega))
    have a2 := (a1.alloc (.cells #[.int .i64 71, .int .i64 72, .int .i64 73] 3)).grown hgrow2 (fun k hk => .inr (by
      rcases F1.out with e1 | ⟨j1, e1, hj1⟩
      · rw [hk] at e1; simp [Value.ownBlock] at e1; omega
      · rw [hk] at e1; cases e1; simp at hj1; omega))
    exact a2
  have H2 : Hd (w2.ownsRow 0 3 1 (.slice (some ⟨g, 0, none⟩) (xs.length + 3) c2) (xs.length + 3) (i64s (xs ++ tail3))) := ⟨by rw [i64s_app]; exact hown2⟩
  have HF := Hd.mk hfr
  clear hown2 hgrow2 haft2 hf2 hfr e2
  go_wp2
  go_region
  go_wp2
  go_ret2
  exact ⟨g, c2, rfl, H2.out, hg, HF.out.drew⟩
theorem lsame_any (w : World) (A B : Option Addr) (n m c d : Nat) (xs ys : List Int) (p q : Option Nat) (hn : xs.length = n) (hm : ys.length = m) (hS : Sl w A (i64s xs) p) (hT : Sl w B (i64s ys) q) (hn1 : n ≤ 4611686018427387904) (hm1 : m ≤ 4611686018427387904) :
    Calls Try.prog 38 #[.slice A n c, .slice B m d] w fun e w' => e = .returned (.bool (decide (xs = ys))) ∧ Fr w w' [] := by
  subst hn hm
  have HS := Hd.mk hS
  have HT := Hd.mk hT
  clear hS hT
  go_enter Try.func38, Try.ntmps38
  by_cases h0 : xs.length = ys.length
  · have hne : ((xs.length : Int) != (ys.length : Int)) = false := by simp; omega
    go_wp2
    go_loopg [13] xs.length (fun kq jv wr => ∃ j : Nat, jv = .int .i64 (j : Nat) ∧ j + kq = xs.length ∧ Hd (xs.take j = ys.take j) ∧ Hd (Fr w wr []))
    case atStart => exact ⟨0, rfl, by omega, ⟨rfl⟩, ⟨Fr.refl _ _⟩⟩
    case round =>
      obtain ⟨j, rfl, hj, HE, HF⟩ := hrel
      by_cases h1 : j < xs.length
      · have h2 : j < ys.length := by omega
        obtain ⟨a, o1, rfl, _, ha⟩ := (HS.out.frame HF.out (by simp)) (by simp [i64s]; omega)
        obtain ⟨b, o2, rfl, _, hb⟩ := (HT.out.frame HF.out (by simp)) (by simp [i64s]; omega)
        obtain ⟨x, hx⟩ : ∃ x, x = xs[j] := ⟨_, rfl⟩
        obtain ⟨y, hy⟩ : ∃ y, y = ys[j] := ⟨_, rfl⟩
        have ca := (ha j (by simp [i64s]; omega)).trans (by rw [i64s_get, List.getElem?_eq_getElem (by omega), ← hx])
        have cb := (hb j (by simp [i64s]; omega)).trans (by rw [i64s_get, List.getElem?_eq_getElem (by omega), ← hy])
        have HX := Hd.mk hx
        have HY := Hd.mk hy
        clear ha hb hx hy
        by_cases hxy : x = y
        · subst hxy
          go_wp2
          go_region
          go_wp2
          go_roundg (gk - 1)
          case measure => omega
          case rel => exact ⟨j + 1, by go_num, by omega, ⟨by rw [List.take_succ_eq_append_getElem h1, List.take_succ_eq_append_getElem h2, HE.out, ← HX.out, ← HY.out]⟩, ⟨HF.out.drew⟩⟩
        · go_wp2
          go_region
          go_wp2
          go_ret
          have : ¬ xs = ys := by
            rintro rfl
            exact hxy (HX.out.trans HY.out.symm)
          rw [decide_eq_false this]
          exact ⟨rfl, HF.out.drew⟩
      · have : xs = ys := by
          have := HE.out
          rwa [List.take_of_length_le (by omega), List.take_of_length_le (by omega)] at this
        go_wp2
        go_ret
        rw [decide_eq_true this]
        exact ⟨rfl, HF.out⟩
  · have hne : ((xs.length : Int) != (ys.length : Int)) = true := by simp; omega
    have : ¬ xs = ys := by rintro rfl; exact h0 rfl
    go_wp2
    go_ret
    rw [decide_eq_false this]
    exact ⟨rfl, Fr.refl _ _⟩
theorem lkept_any (w : World) (A : Option Addr) (l c : Nat) (xs : List Int) (q : Option Nat) (hS : SlArg w A l c (i64s xs) q) (hy : l * 8 ≤ 140737488355000)
    (B : Option Addr) (m d : Nat) (ys : List Int) (p : Option Nat) (hm : ys.length = m) (hm2 : m ≤ 4611686018427387904) (hT : Sl w B (i64s ys) p) :
    Calls Try.prog 14 #[.slice B m d, .slice A l c] w fun e w' => e = .returned (.bool (decide (ys = xs ++ tail3))) ∧ Fr w w' [] := by
  have HS := Hd.mk hS
  have HT := Hd.mk hT
  have HM := Hd.mk hm
  have hl : Hd (xs.length = l) := ⟨by have := hS.len; simpa [i64s] using this⟩
  clear hS hT hm
  go_enter Try.func14, Try.ntmps14
  go_wp2_with (fail)
  refine (llend_any w A l c xs q HS.out hy).mono ?_
  rintro e w1 ⟨g, e1, rfl, h1, h2, h3⟩
  have H1 := Hd.mk h1
  have H3 := Hd.mk h3
  have HT1 := Hd.mk (HT.out.frame h3 (by simp))
  clear h1 h3
  go_wp2_with (fail)
  refine (lsame_any w1 B _ m (l + 3) d e1 ys (xs ++ tail3) p _ HM.out (by rw [List.length_append, hl.out]; rfl) HT1.out (sl_of_own H1.out) hm2 (by omega)).mono ?_
  rintro e w' ⟨rfl, h4⟩
  have H4 := Hd.mk h4
  clear h4
  go_wp2
  go_ret
  exact ⟨rfl, H3.out.trans H4.out (by simp)⟩
end Go.Proofs.Ytncjckhcellehaa.Code
