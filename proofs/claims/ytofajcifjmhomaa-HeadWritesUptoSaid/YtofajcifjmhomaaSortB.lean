/- Stable sorting of leaves (chapter 04): rotation, insertion. Conditions: at most 2^40 items. -/
import Derived.Test.YtofajcifjmhomaaSortA
import Derived.Deep.RegionHeld3
set_option linter.unusedVariables false
set_option linter.unusedSimpArgs false
set_option maxRecDepth 100000
namespace Go.Proofs.Ytofajcifjmhomaa.Sort
open Go.RowKit Go.Proofs.Ytofajcifjmhomaa.Lib Go.Proofs.Ytofajcifjmhomaa.Ints Go.Proofs.Ytofajcifjmhomaa.Sorts

set_option maxHeartbeats 4000000 in
theorem rotate_any (w : World) (g n c : Nat) (d : Nat → Nat × Nat) (a m b : Nat) (f : Value) (hR : Rw w g n d) (hn : n ≤ 1099511627776) (hnc : n ≤ c) (h1 : a < m) (h2 : m < b) (h3 : b ≤ n) :
    Calls Try.prog 110 #[.slice (some ⟨g, 0, none⟩) n c, .int .i64 (a : Nat), .int .i64 (m : Nat), .int .i64 (b : Nat), f] w fun e w' => e = .returned (.tuple #[]) ∧ Rw w' g n (rot d a m b) ∧ Ch n a b d (rot d a m b) ∧ Fr w w' [g] := by
  have HR := Hd.mk hR
  clear hR
  go_enter Try.func110, Try.ntmps110
  go_wp2
  go_loopg [10, 11] (b - a) (fun kq iv jv wr => ∃ (i j : Nat) (d' : Nat → Nat × Nat), iv = .int .i64 (i : Nat) ∧ jv = .int .i64 (j : Nat) ∧ 0 < i ∧ 0 < j ∧ i ≤ m - a ∧ j ≤ b - m ∧ i + j ≤ kq ∧ Hd (Rot n a m b i j d d') ∧ Hd (Rw wr g n d') ∧ Hd (Fr w wr [g]))
  case atStart => exact ⟨m - a, b - m, d, by go_num, by go_num, by omega, by omega, by omega, by omega, by omega, ⟨Rot.start d h1 h2⟩, HR, ⟨Fr.refl _ _⟩⟩
  case round =>
    obtain ⟨i, j, d', rfl, rfl, hi0, hj0, hi, hj, hk, HT, HW, HF⟩ := hrel
    by_cases hij : i = j
    · subst hij
      have e1 : ((i : Int) != (i : Int)) = false := by simp
      have e3 : Hd ((m : Int) - (i : Int) = ((m - i : Nat) : Int)) := ⟨by omega⟩
      go_wp2_with (fail)
      rw [e3.out]
      refine (swapRange_any _ g n c d' (m - i) m i f HW.out hn hnc (by omega) (by omega)).mono ?_
      rintro e w1 ⟨rfl, q1, q2⟩
      have HW1 := Hd.mk q1
      have HF1 := Hd.mk (HF.out.trans q2 (by simp))
      clear q1 q2
      go_wp2
      go_end0
      have := HT.out.last h1 h2 h3
      have h5 := this.2
      rw [this.1] at h5
      rw [← this.1]
      exact ⟨rfl, HW1.out, by rw [this.1]; exact h5, HF1.out⟩
    · have e1 : ((i : Int) != (j : Int)) = true := by simp; omega
      have e3 : Hd ((m : Int) - (i : Int) = ((m - i : Nat) : Int)) := ⟨by omega⟩
      by_cases hlt : j < i
      · go_wp2_with (fail)
        rw [e3.out]
        refine (swapRange_any _ g n c d' (m - i) m j f HW.out hn hnc (by omega) (by omega)).mono ?_
        rintro e w1 ⟨rfl, q1, q2⟩
        have HW1 := Hd.mk q1
        have HF1 := Hd.mk (HF.out.trans q2 (by simp))
        clear q1 q2
        go_wp2
        go_roundg (gk - 1)
        case measure => omega
        case rel => exact ⟨i - j, j, _, by go_num, rfl, by omega, by omega, by omega, by omega, by omega, ⟨HT.out.left hlt h1 h2 h3⟩, HW1, HF1⟩
      · have e4 : Hd ((m : Int) + (j : Int) - (i : Int) = ((m + j - i : Nat) : Int)) := ⟨by omega⟩
        go_wp2_with (fail)
        rw [e3.out, e4.out]
        refine (swapRange_any _ g n c d' (m - i) (m + j - i) i f HW.out hn hnc (by omega) (by omega)).mono ?_
        rintro e w1 ⟨rfl, q1, q2⟩
        have HW1 := Hd.mk q1
        have HF1 := Hd.mk (HF.out.trans q2 (by simp))
        clear q1 q2
        go_wp2
        go_roundg (gk - 1)
        case measure => omega
        case rel => exact ⟨i, j - i, _, rfl, by go_num, by omega, by omega, by omega, by omega, by omega, ⟨HT.out.right (by omega) h1 h2 h3⟩, HW1, HF1⟩
/-- the function value that leaves are sorted by -/
def lfn : Value := .func (.func 102) #[] #[]
def ky (x : Nat × Nat) : Int := x.1
def rk (x : Nat × Nat) : Nat := x.2
theorem cmpv_lt (a b : Nat) : cmpv (a : Int) (b : Int) < 0 ↔ a < b := by
  unfold cmpv
  by_cases h : (a : Int) < b
  · rw [if_pos h]; omega
  · rw [if_neg h]
    by_cases k : (b : Int) < a
    · rw [if_pos k]; omega
    · rw [if_neg k]; omega
theorem cmpv_bd (a b : Int) : -1 ≤ cmpv a b ∧ cmpv a b ≤ 1 := by
  unfold cmpv
  split
  · omega
  · split <;> omega
set_option maxHeartbeats 1000000 in
theorem insertion_any (w : World) (g n c : Nat) (d : Nat → Nat × Nat) (a b : Nat) (hR : Rw w g n d) (hn : n ≤ 1099511627776) (hnc : n ≤ c) (h1 : a ≤ b) (h2 : b ≤ n) (hinc : ∀ p q, a ≤ p → p < q → q < b → rk (d p) < rk (d q)) :
    Calls Try.prog 108 #[.slice (some ⟨g, 0, none⟩) n c, .int .i64 (a : Nat), .int .i64 (b : Nat), lfn] w fun e w' => e = .returned (.tuple #[]) ∧ (∃ d', Rw w' g n d' ∧ Ch n a b d d' ∧ Srt ky rk d' a b) ∧ Fr w w' [g] := by
  have HR := Hd.mk hR
  have HI := Hd.mk hinc
  clear hR hinc
  unfold lfn
  go_enter Try.func108, Try.ntmps108
  go_wp2
  go_loopg [8] (b - a) (fun kq iv wr => ∃ (i : Nat) (d' : Nat → Nat × Nat), iv = .int .i64 (i : Nat) ∧ a < i ∧ b - i ≤ kq ∧ (i ≤ b ∨ i = a + 1) ∧ Hd (Ch n a i d d') ∧ Hd (Srt ky rk d' a i) ∧ Hd (Rw wr g n d') ∧ Hd (Fr w wr [g]))
  case atStart => exact ⟨a + 1, d, by go_num, by omega, by omega, .inr rfl, ⟨Ch.refl _ _ _ _⟩, ⟨fun p q e1 e2 e3 => by omega⟩, HR, ⟨Fr.refl _ _⟩⟩
  case round =>
    obtain ⟨i, d1, rfl, hai, hik, hib, HC, HS, HW, HF⟩ := hrel
    obtain ⟨gko, rfl⟩ : ∃ gko, gko = gk := ⟨_, rfl⟩
    by_cases hlt : i < b
    · have HIns : Hd (Ins ky rk n a i i d1 d1) := ⟨Ins.start HS.out (fun p e1 e2 => by
        obtain ⟨j, j1, j2, j3⟩ := HC.out.inn p e1 e2
        rw [j3, HC.out.out i (by omega)]
        exact HI.out j i j1 j2 hlt) (by omega)⟩
      go_wp2
      go_loopg [9] i (fun kq jv wr => ∃ (j : Nat) (d' : Nat → Nat × Nat), jv = .int .i64 (j : Nat) ∧ a ≤ j ∧ j ≤ i ∧ j ≤ kq ∧ Hd (Ins ky rk n a i j d1 d') ∧ Hd (Rw wr g n d') ∧ Hd (Fr w wr [g]))
      case atStart => exact ⟨i, d1, rfl, by omega, by omega, by omega, HIns, HW, HF⟩
      case round =>
        obtain ⟨j, d2, rfl, haj, hji, hjk, HJ, HW2, HF2⟩ := hrel
        by_cases hgt : a < j
        · have ca0 := HW2.out.cell (i := j) (j := 0) (by omega) (by decide)
          have ca1 := HW2.out.cell (i := j) (j := 1) (by omega) (by decide)
          have ca2 := HW2.out.cell (i := j) (j := 2) (by omega) (by decide)
          have cb0 := HW2.out.cell (i := j - 1) (j := 0) (by omega) (by decide)
          have cb1 := HW2.out.cell (i := j - 1) (j := 1) (by omega) (by decide)
          have cb2 := HW2.out.cell (i := j - 1) (j := 2) (by omega) (by decide)
          obtain ⟨x, hx⟩ : ∃ x, x = d2 j := ⟨_, rfl⟩
          obtain ⟨y, hy⟩ : ∃ y, y = d2 (j - 1) := ⟨_, rfl⟩
          rw [← hx] at ca0 ca1 ca2
          rw [← hy] at cb0 cb1 cb2
          have HX := Hd.mk hx
          have HY := Hd.mk hy
          clear hx hy
          simp only [lfc, List.getElem?_cons_zero, List.getElem?_cons_succ, Nat.add_zero] at ca0 ca1 ca2 cb0 cb1 cb2
          have n0 : (1 : Int) ≤ (j : Int) := by omega
          have n1 : ((j : Int) - 1).toNat = j - 1 := by omega
          have n3 : IntKind.i64.wrap ((j : Int) - 1) = (j : Int) - 1 := IntWalk.i64_in _ (by omega)
          have n5 : (0 : Int) ≤ (j : Int) - 1 := by omega
          have n7 : ((j : Int) - 1) < n := by omega
          have n9 : (j : Int) < n := by omega
          by_cases hk : x.1 < y.1
          · have hd : decide (cmpv (x.1 : Int) (y.1 : Int) < 0) = true := by rw [decide_eq_true_eq, cmpv_lt]; exact hk
            have HK : Hd (ky (d2 j) < ky (d2 (j - 1))) := ⟨by rw [← HX.out, ← HY.out]; unfold ky; omega⟩
            go_upto_region 4 with (fail)
            go_region_held3 (fun w' => w'.cell? ⟨g, j * 3, none⟩ = some (.int .i64 x.1) ∧ w'.cell? ⟨g, j * 3 + 1, none⟩ = some (.int .i64 x.2) ∧ w'.cell? ⟨g, j * 3 + 2, none⟩ = some (.slice none 0 0) ∧ w'.cell? ⟨g, (j - 1) * 3, none⟩ = some (.int .i64 y.1) ∧ w'.cell? ⟨g, (j - 1) * 3 + 1, none⟩ = some (.int .i64 y.2) ∧ w'.cell? ⟨g, (j - 1) * 3 + 2, none⟩ = some (.slice none 0 0)) (go_keep)
              (first | (go_at_call 102; refine (less_any _ x y).mono ?_; rintro e w5 ⟨rfl, q5⟩; have k0 := Fr.cellAt q5 (by simp) ca0; have k1 := Fr.cellAt q5 (by simp) ca1; have k2 := Fr.cellAt q5 (by simp) ca2; have l0 := Fr.cellAt q5 (by simp) cb0; have l1 := Fr.cellAt q5 (by simp) cb1; have l2 := Fr.cellAt q5 (by simp) cb2; have Q5 := Hd.mk q5; clear q5))
            rename_i w5 k0 k1 k2 l0 l1 l2 Q5 hHeld
            clear hHeld ca0 ca1 ca2 cb0 cb1 cb2
            have HW5 := Hd.mk (HW2.out.frame Q5.out.ofDrew (by simp))
            have HF5 := Hd.mk (HF2.out.trans Q5.out.ofDrew (by simp))
            have fr : ∀ o, w5.frozen? ⟨g, o, none⟩ = false := HW5.out.free
            go_upto_region 6 with (fail)
            go_region
            have HP : Hd (Rw (six w5 g j (j - 1) x y).drew g n (sw d2 j (j - 1))) := ⟨(HW5.out.swap (by omega) (by omega) (by omega) HX.out HY.out).drew⟩
            have HG : Hd (Fr w (six w5 g j (j - 1) x y).drew [g]) := ⟨(Fr.six HF5.out (by simp)).drew⟩
            clear n1 n3 n5 n7 n9 k0 k1 k2 l0 l1 l2 fr hd
            unfold six at HP HG
            go_wp2
            go_roundg (gk - 1)
            case measure => omega
            case rel => exact ⟨j - 1, _, by go_num, by omega, by omega, by omega, ⟨HJ.out.step hgt (by omega) HK.out⟩, HP, HG⟩
          · have hd : decide (cmpv (x.1 : Int) (y.1 : Int) < 0) = false := by rw [decide_eq_false_iff_not, cmpv_lt]; exact hk
            have HK : Hd (ky (d2 (j - 1)) ≤ ky (d2 j)) := ⟨by rw [← HX.out, ← HY.out]; unfold ky; omega⟩
            go_upto_region 4 with (fail)
            go_region_held3 (fun w' => w'.cell? ⟨g, j * 3, none⟩ = some (.int .i64 x.1) ∧ w'.cell? ⟨g, j * 3 + 1, none⟩ = some (.int .i64 x.2) ∧ w'.cell? ⟨g, j * 3 + 2, none⟩ = some (.slice none 0 0) ∧ w'.cell? ⟨g, (j - 1) * 3, none⟩ = some (.int .i64 y.1) ∧ w'.cell? ⟨g, (j - 1) * 3 + 1, none⟩ = some (.int .i64 y.2) ∧ w'.cell? ⟨g, (j - 1) * 3 + 2, none⟩ = some (.slice none 0 0)) (go_keep)
              (first | (go_at_call 102; refine (less_any _ x y).mono ?_; rintro e w5 ⟨rfl, q5⟩; have k0 := Fr.cellAt q5 (by simp) ca0; have k1 := Fr.cellAt q5 (by simp) ca1; have k2 := Fr.cellAt q5 (by simp) ca2; have l0 := Fr.cellAt q5 (by simp) cb0; have l1 := Fr.cellAt q5 (by simp) cb1; have l2 := Fr.cellAt q5 (by simp) cb2; have Q5 := Hd.mk q5; clear q5))
            rename_i w5 k0 k1 k2 l0 l1 l2 Q5 hHeld
            clear hHeld ca0 ca1 ca2 cb0 cb1 cb2 k0 k1 k2 l0 l1 l2 n1 n3 n5 n7 n9
            have HW5 := Hd.mk (HW2.out.frame Q5.out.ofDrew (by simp))
            have HF5 := Hd.mk (HF2.out.trans Q5.out.ofDrew (by simp))
            go_wp2
            go_roundg (gko - 1)
            case measure => omega
            case rel => exact ⟨i + 1, d2, by go_num, by omega, by omega, .inl (by omega), ⟨(HC.out.wide (Nat.le_refl _) (by omega)).trans HJ.out.ch⟩, ⟨HJ.out.done (.inr (Int.not_lt.2 HK.out))⟩, HW5, HF5⟩
        · obtain rfl : j = a := by omega
          have hd : decide ((j : Int) < (j : Int)) = false := by simp
          go_wp2
          go_region
          go_wp2
          go_roundg (gko - 1)
          case measure => omega
          case rel => exact ⟨i + 1, d2, by go_num, by omega, by omega, .inl (by omega), ⟨(HC.out.wide (Nat.le_refl _) (by omega)).trans HJ.out.ch⟩, ⟨HJ.out.done (.inl rfl)⟩, ⟨HW2.out.drew⟩, ⟨HF2.out.drew⟩⟩
    · go_wp2
      go_end0
      have hib2 : (a < b ∧ i = b) ∨ (a = b ∧ i = a + 1) := by omega
      rcases hib2 with ⟨e1, e2⟩ | ⟨e1, e2⟩
      · subst e2
        exact ⟨rfl, ⟨d1, HW.out, HC.out, HS.out⟩, HF.out⟩
      · subst e1 e2
        refine ⟨rfl, ⟨d1, HW.out, ?_, fun p q a1 a2 a3 => by omega⟩, HF.out⟩
        refine ⟨fun k hk => ?_, fun k k1 k2 => by omega, HC.out.pm⟩
        by_cases hka : k = a
        · obtain ⟨j, j1, j2, j3⟩ := HC.out.inn k (by omega) (by omega)
          rw [j3]; congr 1; omega
        · exact HC.out.out k (by omega)
end Go.Proofs.Ytofajcifjmhomaa.Sort
