/- Lists of int: lend and Same, as the laws' packages have them. Conditions: fewer than 2^44 numbers. -/
import Derived.Test.YtofajcifjmhomaaProg
import Derived.Test.YtofajcifjmhomaaLib
import Derived.BigRegion
import Derived.BigQuiet
import Derived.Deep.QuietTactic
import Derived.Deep.LoopGhost
import Derived.Deep.DeepCutAuto
import Derived.KernelRfl
import Derived.Deep.RegionLaw
import Derived.Outline
set_option maxRecDepth 100000
set_option linter.unusedVariables false
set_option linter.unusedSimpArgs false
namespace Go.Proofs.Ytofajcifjmhomaa.Ints
open Go.RowKit Go.Proofs.Ytofajcifjmhomaa.Lib

theorem infoI64 : (Try.prog.info? 3).map (fun i => (i.zero, i.size, i.bytes)) = some (some (.int .i64 0), 1, 8) := by kernel_rfl
def i64s (xs : List Int) : List Value := xs.map (Value.int .i64)
theorem i64s_length (xs : List Int) : (i64s xs).length = xs.length := by simp [i64s]
theorem i64s_get (xs : List Int) (j : Nat) : (i64s xs)[j]? = (xs[j]?).map (Value.int .i64) := by simp [i64s]
theorem i64s_app (xs ys : List Int) : i64s (xs ++ ys) = i64s xs ++ i64s ys := by simp [i64s]
theorem i64s_one (xs : List Int) : ∀ u ∈ i64s xs, u.oneCell' = true := by intro u hu; simp only [i64s, List.mem_map] at hu; obtain ⟨_, _, rfl⟩ := hu; rfl
def tail4 : List Int := [71, 72, 73, 74]
theorem lend_any (w : World) (A : Option Addr) (l c : Nat) (xs : List Int) (q : Option Nat) (hS : SlArg w A l c (i64s xs) q) (hy : l * 8 ≤ 140737488355200) :
    Calls Try.prog 13 #[.slice A l c] w fun e w' => ∃ g d, e = .returned (.slice (some ⟨g, 0, none⟩) (l + 4) d) ∧
      w'.ownsRow 0 3 1 (.slice (some ⟨g, 0, none⟩) (l + 4) d) (l + 4) (i64s (xs ++ tail4)) ∧ w.heap.size ≤ g ∧ Fr w w' [] := by
  obtain ⟨i0, hi0, hz0, hz1, hz2⟩ := info_parts infoI64
  have hl : xs.length = l := by have := hS.len; simpa [i64s] using this
  subst hl
  have HS := Hd.mk hS.sl
  have HN := Hd.mk hS.nil
  clear hS
  go_enter Try.func13, Try.ntmps13
  go_wp2_with (at_builtin; refine wpList_append_sl rfl (.const (.slice none 0 0)) (.tmp 3) 22 rfl 3 i0 (.int .i64 0) 1 8 Try.underlying22 hi0 hz0 hz1 hz2 rfl (by decide) (.slice none 0 0) 0 [] rfl ?c0 A xs.length c _ _ rfl ?c4 HS.out HN.out ?c1 ?c2 ?c3 ?_)
  case c0 => exact own_nil _ _ _ _
  case c4 => simp [i64s]
  case c1 => exact i64s_one xs
  case c2 => unfold maxLen; omega
  case c3 => omega
  intro A1 c1 w1 hown1 hgrow1 haft1
  have H1 := Hd.mk hown1
  have G1 := Hd.mk hgrow1
  have F1 := Hd.mk haft1
  clear hown1 hgrow1 haft1
  go_wp2_with (at_builtin; refine wpList_append_sl rfl (.tmp 4) (.tmp 5) 22 rfl 3 i0 (.int .i64 0) 1 8 Try.underlying22 hi0 hz0 hz1 hz2 rfl (by decide) (.slice A1 xs.length c1) xs.length _ rfl (by exact H1.out.alloc _) (some ⟨w1.heap.size, 0, none⟩) 4 4 [.int .i64 71, .int .i64 72, .int .i64 73, .int .i64 74] (some w1.heap.size) rfl rfl (by exact sl_of_blk (blk_new _ _)) (by intro h; cases h) ?d1 ?d2 ?d3 ?_)
  case d1 => intro u hu; simp at hu; rcases hu with rfl | rfl | rfl | rfl <;> rfl
  case d2 => unfold maxLen; omega
  case d3 => omega
  intro A2 c2 w2 hown2 hgrow2 haft2
  have hf2 : ∀ k, (Value.slice A2 (xs.length + 4) c2).ownBlock = some k → w.heap.size ≤ k := by
    intro k hk
    have h0 : w.heap.size ≤ w1.heap.size := by have := G1.out.size; omega
    rcases haft2 with e | ⟨j, e, hj⟩
    · rw [e] at hk
      rcases F1.out with e1 | ⟨j1, e1, hj1⟩
      · rw [hk] at e1; simp [Value.ownBlock] at e1
      · rw [hk] at e1; cases e1; omega
    · rw [hk] at e; cases e; simp at hj; omega
  obtain ⟨g, d, e2, hd⟩ := own_some hown2 (by omega)
  have hA2 : A2 = some ⟨g, 0, none⟩ ∧ c2 = d := by injection e2 with a1 _ a2; exact ⟨a1, a2⟩
  obtain ⟨rfl, rfl⟩ := hA2
  have hg := hf2 g rfl
  have hfr : Fr w w2 [] := by
    have a1 := (Fr.refl w []).grown G1.out (fun k hk => .inr (by simp [Value.ownBlock] at hk))
    have a2 := (a1.alloc (.cells #[.int .i64 71, .int .i64 72, .int .i64 73, .int .i64 74] 3)).grown hgrow2 (fun k hk => .inr (by
      rcases F1.out with e1 | ⟨j1, e1, hj1⟩
      · rw [hk] at e1; simp [Value.ownBlock] at e1
      · rw [hk] at e1; cases e1; omega))
    exact a2
  have H2 : Hd (w2.ownsRow 0 3 1 (.slice (some ⟨g, 0, none⟩) (xs.length + 4) c2) (xs.length + 4) (i64s (xs ++ tail4))) := ⟨by rw [i64s_app]; exact hown2⟩
  have HF := Hd.mk hfr
  clear hown2 hgrow2 haft2 hf2 hfr e2
  go_wp2
  go_ret
  exact ⟨g, c2, rfl, H2.out, hg, HF.out⟩
theorem same_any (w : World) (A B : Option Addr) (n m c d : Nat) (xs ys : List Int) (p q : Option Nat) (hn : xs.length = n) (hm : ys.length = m) (hS : Sl w A (i64s xs) p) (hT : Sl w B (i64s ys) q) (hn1 : n ≤ 4611686018427387904) (hm1 : m ≤ 4611686018427387904) :
    Calls Try.prog 17 #[.slice A n c, .slice B m d] w fun e w' => e = .returned (.bool (decide (xs = ys))) ∧ Fr w w' [] := by
  subst hn hm
  have HS := Hd.mk hS
  have HT := Hd.mk hT
  clear hS hT
  go_enter Try.func17, Try.ntmps17
  go_wp2
  go_loopg [5] (min xs.length ys.length) (fun kq jv wr => ∃ j : Nat, jv = .int .i64 (j : Nat) ∧ j + kq = min xs.length ys.length ∧ Hd (xs.take j = ys.take j) ∧ Hd (Fr w wr []))
  case atStart => exact ⟨0, rfl, by omega, ⟨rfl⟩, ⟨Fr.refl _ _⟩⟩
  case round =>
    obtain ⟨j, rfl, hj, HE, HF⟩ := hrel
    by_cases h1 : j < xs.length
    · by_cases h2 : j < ys.length
      · obtain ⟨a, o1, rfl, _, ha⟩ := (HS.out.frame HF.out (by simp)) (by simp [i64s]; omega)
        obtain ⟨b, o2, rfl, _, hb⟩ := (HT.out.frame HF.out (by simp)) (by simp [i64s]; omega)
        obtain ⟨x, hx⟩ : ∃ x, x = xs[j] := ⟨_, rfl⟩
        obtain ⟨y, hy⟩ : ∃ y, y = ys[j] := ⟨_, rfl⟩
        have ca := (ha j (by simp [i64s]; omega)).trans (by rw [i64s_get, List.getElem?_eq_getElem (by omega), ← hx])
        have cb := (hb j (by simp [i64s]; omega)).trans (by rw [i64s_get, List.getElem?_eq_getElem (by omega), ← hy])
        have HX := Hd.mk hx
        have HY := Hd.mk hy
        clear ha hb hx hy
        by_cases hxy : x = y
        · subst hxy
          go_wp2
          go_region
          go_wp2
          go_roundg (gk - 1)
          case measure => omega
          case rel => exact ⟨j + 1, by go_num, by omega, ⟨by rw [List.take_succ_eq_append_getElem h1, List.take_succ_eq_append_getElem h2, HE.out, ← HX.out, ← HY.out]⟩, ⟨HF.out.drew⟩⟩
        · go_wp2
          go_region
          go_wp2
          go_ret
          have : ¬ xs = ys := by
            rintro rfl
            exact hxy (HX.out.trans HY.out.symm)
          rw [decide_eq_false this]
          exact ⟨rfl, HF.out.drew⟩
      · have hne : ((xs.length : Int) == (ys.length : Int)) = false := by simp; omega
        have : ¬ xs = ys := by rintro rfl; omega
        go_wp2
        go_ret
        rw [decide_eq_false this]
        exact ⟨rfl, HF.out⟩
    · by_cases h3 : xs.length = ys.length
      · have hne : ((xs.length : Int) == (ys.length : Int)) = true := by simp; omega
        have : xs = ys := by
          have := HE.out
          rwa [List.take_of_length_le (by omega), List.take_of_length_le (by omega)] at this
        go_wp2
        go_ret
        rw [decide_eq_true this]
        exact ⟨rfl, HF.out⟩
      · have hne : ((xs.length : Int) == (ys.length : Int)) = false := by simp; omega
        have : ¬ xs = ys := by rintro rfl; omega
        go_wp2
        go_ret
        rw [decide_eq_false this]
        exact ⟨rfl, HF.out⟩
end Go.Proofs.Ytofajcifjmhomaa.Ints
