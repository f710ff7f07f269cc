/- Texts of this claim, one behind the other: SortB, SortC. -/
import Derived.Test.YtlfckpmdmkccjaaGreatG12
import Derived.Deep.RegionHeld3
/- Stable sorting of leaves (chapter 04): rotation, insertion. Conditions: at most 2^40 items. -/
set_option linter.unusedVariables false
set_option linter.unusedSimpArgs false
set_option maxRecDepth 100000
namespace Go.Proofs.YtlfckpmdmkccjaaGreat.Sort
open Go.RowKit Go.Proofs.YtlfckpmdmkccjaaGreat.Lib Go.Proofs.YtlfckpmdmkccjaaGreat.Ints Go.Proofs.YtlfckpmdmkccjaaGreat.Sorts

set_option maxHeartbeats 4000000 in
theorem rotate_any (w : World) (g n c : Nat) (d : Nat → Nat × Nat) (a m b : Nat) (f : Value) (hR : Rw w g n d) (hn : n ≤ 1099511627776) (hnc : n ≤ c) (h1 : a < m) (h2 : m < b) (h3 : b ≤ n) :
    Calls Tryz.prog 157 #[.slice (some ⟨g, 0, none⟩) n c, .int .i64 (a : Nat), .int .i64 (m : Nat), .int .i64 (b : Nat), f] w fun e w' => e = .returned (.tuple #[]) ∧ Rw w' g n (rot d a m b) ∧ Ch n a b d (rot d a m b) ∧ Fr w w' [g] := by
  have HR := Hd.mk hR
  clear hR
  go_enter Tryz.func157, Tryz.ntmps157
  go_wp2
  go_loopg [10, 11] (b - a) (fun kq iv jv wr => ∃ (i j : Nat) (d' : Nat → Nat × Nat), iv = .int .i64 (i : Nat) ∧ jv = .int .i64 (j : Nat) ∧ 0 < i ∧ 0 < j ∧ i ≤ m - a ∧ j ≤ b - m ∧ i + j ≤ kq ∧ Hd (Rot n a m b i j d d') ∧ Hd (Rw wr g n d') ∧ Hd (Fr w wr [g]))
  case atStart => exact ⟨m - a, b - m, d, by go_num, by go_num, by omega, by omega, by omega, by omega, by omega, ⟨Rot.start d h1 h2⟩, HR, ⟨Fr.refl _ _⟩⟩
  case round =>
    obtain ⟨i, j, d', rfl, rfl, hi0, hj0, hi, hj, hk, HT, HW, HF⟩ := hrel
    by_cases hij : i = j
    · subst hij
      have e1 : ((i : Int) != (i : Int)) = false := by simp
      have e3 : Hd ((m : Int) - (i : Int) = ((m - i : Nat) : Int)) := ⟨by omega⟩
      go_wp2_with (fail)
      rw [e3.out]
      refine (swapRange_any _ g n c d' (m - i) m i f HW.out hn hnc (by omega) (by omega)).mono ?_
      rintro e w1 ⟨rfl, q1, q2⟩
      have HW1 := Hd.mk q1
      have HF1 := Hd.mk (HF.out.trans q2 (by simp))
      clear q1 q2
      go_wp2
      go_end0
      have := HT.out.last h1 h2 h3
      have h5 := this.2
      rw [this.1] at h5
      rw [← this.1]
      exact ⟨rfl, HW1.out, by rw [this.1]; exact h5, HF1.out⟩
    · have e1 : ((i : Int) != (j : Int)) = true := by simp; omega
      have e3 : Hd ((m : Int) - (i : Int) = ((m - i : Nat) : Int)) := ⟨by omega⟩
      by_cases hlt : j < i
      · go_wp2_with (fail)
        rw [e3.out]
        refine (swapRange_any _ g n c d' (m - i) m j f HW.out hn hnc (by omega) (by omega)).mono ?_
        rintro e w1 ⟨rfl, q1, q2⟩
        have HW1 := Hd.mk q1
        have HF1 := Hd.mk (HF.out.trans q2 (by simp))
        clear q1 q2
        go_wp2
        go_roundg (gk - 1)
        case measure => omega
        case rel => exact ⟨i - j, j, _, by go_num, rfl, by omega, by omega, by omega, by omega, by omega, ⟨HT.out.left hlt h1 h2 h3⟩, HW1, HF1⟩
      · have e4 : Hd ((m : Int) + (j : Int) - (i : Int) = ((m + j - i : Nat) : Int)) := ⟨by omega⟩
        go_wp2_with (fail)
        rw [e3.out, e4.out]
        refine (swapRange_any _ g n c d' (m - i) (m + j - i) i f HW.out hn hnc (by omega) (by omega)).mono ?_
        rintro e w1 ⟨rfl, q1, q2⟩
        have HW1 := Hd.mk q1
        have HF1 := Hd.mk (HF.out.trans q2 (by simp))
        clear q1 q2
        go_wp2
        go_roundg (gk - 1)
        case measure => omega
        case rel => exact ⟨i, j - i, _, rfl, by go_num, by omega, by omega, by omega, by omega, by omega, ⟨HT.out.right (by omega) h1 h2 h3⟩, HW1, HF1⟩
/-- the function value that leaves are sorted by -/
def lfn : Value := .func (.func 109) #[] #[]
def ky (x : Nat × Nat) : Int := x.1
def rk (x : Nat × Nat) : Nat := x.2
theorem cmpv_lt (a b : Nat) : cmpv (a : Int) (b : Int) < 0 ↔ a < b := by
  unfold cmpv
  by_cases h : (a : Int) < b
  · rw [if_pos h]; omega
  · rw [if_neg h]
    by_cases k : (b : Int) < a
    · rw [if_pos k]; omega
    · rw [if_neg k]; omega
theorem cmpv_bd (a b : Int) : -1 ≤ cmpv a b ∧ cmpv a b ≤ 1 := by
  unfold cmpv
  split
  · omega
  · split <;> omega
set_option maxHeartbeats 1000000 in
theorem insertion_any (w : World) (g n c : Nat) (d : Nat → Nat × Nat) (a b : Nat) (hR : Rw w g n d) (hn : n ≤ 1099511627776) (hnc : n ≤ c) (h1 : a ≤ b) (h2 : b ≤ n) (hinc : ∀ p q, a ≤ p → p < q → q < b → rk (d p) < rk (d q)) :
    Calls Tryz.prog 149 #[.slice (some ⟨g, 0, none⟩) n c, .int .i64 (a : Nat), .int .i64 (b : Nat), lfn] w fun e w' => e = .returned (.tuple #[]) ∧ (∃ d', Rw w' g n d' ∧ Ch n a b d d' ∧ Srt ky rk d' a b) ∧ Fr w w' [g] := by
  have HR := Hd.mk hR
  have HI := Hd.mk hinc
  clear hR hinc
  unfold lfn
  go_enter Tryz.func149, Tryz.ntmps149
  go_wp2
  go_loopg [8] (b - a) (fun kq iv wr => ∃ (i : Nat) (d' : Nat → Nat × Nat), iv = .int .i64 (i : Nat) ∧ a < i ∧ b - i ≤ kq ∧ (i ≤ b ∨ i = a + 1) ∧ Hd (Ch n a i d d') ∧ Hd (Srt ky rk d' a i) ∧ Hd (Rw wr g n d') ∧ Hd (Fr w wr [g]))
  case atStart => exact ⟨a + 1, d, by go_num, by omega, by omega, .inr rfl, ⟨Ch.refl _ _ _ _⟩, ⟨fun p q e1 e2 e3 => by omega⟩, HR, ⟨Fr.refl _ _⟩⟩
  case round =>
    obtain ⟨i, d1, rfl, hai, hik, hib, HC, HS, HW, HF⟩ := hrel
    obtain ⟨gko, rfl⟩ : ∃ gko, gko = gk := ⟨_, rfl⟩
    by_cases hlt : i < b
    · have HIns : Hd (Ins ky rk n a i i d1 d1) := ⟨Ins.start HS.out (fun p e1 e2 => by
        obtain ⟨j, j1, j2, j3⟩ := HC.out.inn p e1 e2
        rw [j3, HC.out.out i (by omega)]
        exact HI.out j i j1 j2 hlt) (by omega)⟩
      go_wp2
      go_loopg [9] i (fun kq jv wr => ∃ (j : Nat) (d' : Nat → Nat × Nat), jv = .int .i64 (j : Nat) ∧ a ≤ j ∧ j ≤ i ∧ j ≤ kq ∧ Hd (Ins ky rk n a i j d1 d') ∧ Hd (Rw wr g n d') ∧ Hd (Fr w wr [g]))
      case atStart => exact ⟨i, d1, rfl, by omega, by omega, by omega, HIns, HW, HF⟩
      case round =>
        obtain ⟨j, d2, rfl, haj, hji, hjk, HJ, HW2, HF2⟩ := hrel
        by_cases hgt : a < j
        · have ca0 := HW2.out.cell (i := j) (j := 0) (by omega) (by decide)
          have ca1 := HW2.out.cell (i := j) (j := 1) (by omega) (by decide)
          have ca2 := HW2.out.cell (i := j) (j := 2) (by omega) (by decide)
          have cb0 := HW2.out.cell (i := j - 1) (j := 0) (by omega) (by decide)
          have cb1 := HW2.out.cell (i := j - 1) (j := 1) (by omega) (by decide)
          have cb2 := HW2.out.cell (i := j - 1) (j := 2) (by omega) (by decide)
          obtain ⟨x, hx⟩ : ∃ x, x = d2 j := ⟨_, rfl⟩
          obtain ⟨y, hy⟩ : ∃ y, y = d2 (j - 1) := ⟨_, rfl⟩
          rw [← hx] at ca0 ca1 ca2
          rw [← hy] at cb0 cb1 cb2
          have HX := Hd.mk hx
          have HY := Hd.mk hy
          clear hx hy
          simp only [lfc, List.getElem?_cons_zero, List.getElem?_cons_succ, Nat.add_zero] at ca0 ca1 ca2 cb0 cb1 cb2
          have n0 : (1 : Int) ≤ (j : Int) := by omega
          have n1 : ((j : Int) - 1).toNat = j - 1 := by omega
          have n3 : IntKind.i64.wrap ((j : Int) - 1) = (j : Int) - 1 := IntWalk.i64_in _ (by omega)
          have n5 : (0 : Int) ≤ (j : Int) - 1 := by omega
          have n7 : ((j : Int) - 1) < n := by omega
          have n9 : (j : Int) < n := by omega
          by_cases hk : x.1 < y.1
          · have hd : decide (cmpv (x.1 : Int) (y.1 : Int) < 0) = true := by rw [decide_eq_true_eq, cmpv_lt]; exact hk
            have HK : Hd (ky (d2 j) < ky (d2 (j - 1))) := ⟨by rw [← HX.out, ← HY.out]; unfold ky; omega⟩
            go_upto_region 4 with (fail)
            go_region_held3 (fun w' => w'.cell? ⟨g, j * 3, none⟩ = some (.int .i64 x.1) ∧ w'.cell? ⟨g, j * 3 + 1, none⟩ = some (.int .i64 x.2) ∧ w'.cell? ⟨g, j * 3 + 2, none⟩ = some (.slice none 0 0) ∧ w'.cell? ⟨g, (j - 1) * 3, none⟩ = some (.int .i64 y.1) ∧ w'.cell? ⟨g, (j - 1) * 3 + 1, none⟩ = some (.int .i64 y.2) ∧ w'.cell? ⟨g, (j - 1) * 3 + 2, none⟩ = some (.slice none 0 0)) (go_keep)
              (first | (go_at_call 109; refine (less_any _ x y).mono ?_; rintro e w5 ⟨rfl, q5⟩; have k0 := Fr.cellAt q5 (by simp) ca0; have k1 := Fr.cellAt q5 (by simp) ca1; have k2 := Fr.cellAt q5 (by simp) ca2; have l0 := Fr.cellAt q5 (by simp) cb0; have l1 := Fr.cellAt q5 (by simp) cb1; have l2 := Fr.cellAt q5 (by simp) cb2; have Q5 := Hd.mk q5; clear q5))
            rename_i w5 k0 k1 k2 l0 l1 l2 Q5 hHeld
            clear hHeld ca0 ca1 ca2 cb0 cb1 cb2
            have HW5 := Hd.mk (HW2.out.frame Q5.out.ofDrew (by simp))
            have HF5 := Hd.mk (HF2.out.trans Q5.out.ofDrew (by simp))
            have fr : ∀ o, w5.frozen? ⟨g, o, none⟩ = false := HW5.out.free
            go_upto_region 6 with (fail)
            go_region
            have HP : Hd (Rw (six w5 g j (j - 1) x y).drew g n (sw d2 j (j - 1))) := ⟨(HW5.out.swap (by omega) (by omega) (by omega) HX.out HY.out).drew⟩
            have HG : Hd (Fr w (six w5 g j (j - 1) x y).drew [g]) := ⟨(Fr.six HF5.out (by simp)).drew⟩
            clear n1 n3 n5 n7 n9 k0 k1 k2 l0 l1 l2 fr hd
            unfold six at HP HG
            go_wp2
            go_roundg (gk - 1)
            case measure => omega
            case rel => exact ⟨j - 1, _, by go_num, by omega, by omega, by omega, ⟨HJ.out.step hgt (by omega) HK.out⟩, HP, HG⟩
          · have hd : decide (cmpv (x.1 : Int) (y.1 : Int) < 0) = false := by rw [decide_eq_false_iff_not, cmpv_lt]; exact hk
            have HK : Hd (ky (d2 (j - 1)) ≤ ky (d2 j)) := ⟨by rw [← HX.out, ← HY.out]; unfold ky; omega⟩
            go_upto_region 4 with (fail)
            go_region_held3 (fun w' => w'.cell? ⟨g, j * 3, none⟩ = some (.int .i64 x.1) ∧ w'.cell? ⟨g, j * 3 + 1, none⟩ = some (.int .i64 x.2) ∧ w'.cell? ⟨g, j * 3 + 2, none⟩ = some (.slice none 0 0) ∧ w'.cell? ⟨g, (j - 1) * 3, none⟩ = some (.int .i64 y.1) ∧ w'.cell? ⟨g, (j - 1) * 3 + 1, none⟩ = some (.int .i64 y.2) ∧ w'.cell? ⟨g, (j - 1) * 3 + 2, none⟩ = some (.slice none 0 0)) (go_keep)
              (first | (go_at_call 109; refine (less_any _ x y).mono ?_; rintro e w5 ⟨rfl, q5⟩; have k0 := Fr.cellAt q5 (by simp) ca0; have k1 := Fr.cellAt q5 (by simp) ca1; have k2 := Fr.cellAt q5 (by simp) ca2; have l0 := Fr.cellAt q5 (by simp) cb0; have l1 := Fr.cellAt q5 (by simp) cb1; have l2 := Fr.cellAt q5 (by simp) cb2; have Q5 := Hd.mk q5; clear q5))
            rename_i w5 k0 k1 k2 l0 l1 l2 Q5 hHeld
            clear hHeld ca0 ca1 ca2 cb0 cb1 cb2 k0 k1 k2 l0 l1 l2 n1 n3 n5 n7 n9
            have HW5 := Hd.mk (HW2.out.frame Q5.out.ofDrew (by simp))
            have HF5 := Hd.mk (HF2.out.trans Q5.out.ofDrew (by simp))
            go_wp2
            go_roundg (gko - 1)
            case measure => omega
            case rel => exact ⟨i + 1, d2, by go_num, by omega, by omega, .inl (by omega), ⟨(HC.out.wide (Nat.le_refl _) (by omega)).trans HJ.out.ch⟩, ⟨HJ.out.done (.inr (Int.not_lt.2 HK.out))⟩, HW5, HF5⟩
        · obtain rfl : j = a := by omega
          have hd : decide ((j : Int) < (j : Int)) = false := by simp
          go_wp2
          go_region
          go_wp2
          go_roundg (gko - 1)
          case measure => omega
          case rel => exact ⟨i + 1, d2, by go_num, by omega, by omega, .inl (by omega), ⟨(HC.out.wide (Nat.le_refl _) (by omega)).trans HJ.out.ch⟩, ⟨HJ.out.done (.inl rfl)⟩, ⟨HW2.out.drew⟩, ⟨HF2.out.drew⟩⟩
    · go_wp2
      go_end0
      have hib2 : (a < b ∧ i = b) ∨ (a = b ∧ i = a + 1) := by omega
      rcases hib2 with ⟨e1, e2⟩ | ⟨e1, e2⟩
      · subst e2
        exact ⟨rfl, ⟨d1, HW.out, HC.out, HS.out⟩, HF.out⟩
      · subst e1 e2
        refine ⟨rfl, ⟨d1, HW.out, ?_, fun p q a1 a2 a3 => by omega⟩, HF.out⟩
        refine ⟨fun k hk => ?_, fun k k1 k2 => by omega, HC.out.pm⟩
        by_cases hka : k = a
        · obtain ⟨j, j1, j2, j3⟩ := HC.out.inn k (by omega) (by omega)
          rw [j3]; congr 1; omega
        · exact HC.out.out k (by omega)
end Go.Proofs.YtlfckpmdmkccjaaGreat.Sort
/- Stable sorting of leaves (chapter 04): two sorted neighbours merged where one of them has one item. Conditions: at most 2^40 items. -/
set_option linter.unusedVariables false
set_option linter.unusedSimpArgs false
set_option maxRecDepth 100000
namespace Go.Proofs.YtlfckpmdmkccjaaGreat.Sort
open Go.RowKit Go.Proofs.YtlfckpmdmkccjaaGreat.Lib Go.Proofs.YtlfckpmdmkccjaaGreat.Ints Go.Proofs.YtlfckpmdmkccjaaGreat.Sorts

set_option maxHeartbeats 2000000 in
theorem merge_first (w : World) (g n c : Nat) (d : Nat → Nat × Nat) (a m b : Nat) (hm : m = a + 1) (hR : Rw w g n d) (hn : n ≤ 1099511627776) (hnc : n ≤ c) (h1 : a + 1 < b) (h2 : b ≤ n) (hs : Srt ky rk d (a + 1) b) (hl : Lo rk d a (a + 1) b) :
    Calls Tryz.prog 150 #[.slice (some ⟨g, 0, none⟩) n c, .int .i64 (a : Nat), .int .i64 (m : Nat), .int .i64 (b : Nat), lfn] w fun e w' => e = .returned (.tuple #[]) ∧ (∃ d', Rw w' g n d' ∧ Ch n a b d d' ∧ Srt ky rk d' a b) ∧ Fr w w' [g] := by
  have HR := Hd.mk hR
  have HS := Hd.mk hs
  have HL := Hd.mk hl
  clear hR hs hl
  unfold lfn
  have e0 : (((m : Int) - (a : Int) == 1)) = true := by simp; omega
  have e2 : a ≤ m ∧ m ≤ b := by omega
  have HM := Hd.mk hm
  clear hm
  go_enter Tryz.func150, Tryz.ntmps150
  go_wp2
  go_loopg [10, 11] (b - a - 1) (fun kq iv jv wr => ∃ (i j : Nat), iv = .int .i64 (i : Nat) ∧ jv = .int .i64 (j : Nat) ∧ a + 1 ≤ i ∧ i ≤ j ∧ j ≤ b ∧ j - i ≤ kq ∧ Hd (∀ q, a + 1 ≤ q → q < i → ky (d q) < ky (d a)) ∧ Hd (∀ q, j ≤ q → q < b → ¬ ky (d q) < ky (d a)) ∧ Hd (Rw wr g n d) ∧ Hd (Fr w wr [g]))
  case atStart => have := HM.out; exact ⟨m, b, rfl, rfl, by omega, by omega, by omega, by omega, ⟨fun q q1 q2 => by omega⟩, ⟨fun q q1 q2 => by omega⟩, HR, ⟨Fr.refl _ _⟩⟩
  case round =>
    obtain ⟨i, j, rfl, rfl, hai, hij, hjb, hk, HA, HB, HW, HF⟩ := hrel
    by_cases hlt : i < j
    · obtain ⟨h, hh⟩ : ∃ h, h = (i + j) / 2 := ⟨_, rfl⟩
      go_upto_region 5 with (fail)
      rw [show ((i : Int) + (j : Int)) / 2 = ((h : Nat) : Int) from by omega]
      have ca0 := HW.out.cell (i := h) (j := 0) (by omega) (by decide)
      have ca1 := HW.out.cell (i := h) (j := 1) (by omega) (by decide)
      have ca2 := HW.out.cell (i := h) (j := 2) (by omega) (by decide)
      have cb0 := HW.out.cell (i := a) (j := 0) (by omega) (by decide)
      have cb1 := HW.out.cell (i := a) (j := 1) (by omega) (by decide)
      have cb2 := HW.out.cell (i := a) (j := 2) (by omega) (by decide)
      obtain ⟨x, hx⟩ : ∃ x, x = d h := ⟨_, rfl⟩
      obtain ⟨y, hy⟩ : ∃ y, y = d a := ⟨_, rfl⟩
      rw [← hx] at ca0 ca1 ca2
      rw [← hy] at cb0 cb1 cb2
      have HX := Hd.mk hx
      have HY := Hd.mk hy
      have HH := Hd.mk hh
      have hhb : i ≤ h ∧ h < j := by omega
      clear hx hy hh
      simp only [lfc, List.getElem?_cons_zero, List.getElem?_cons_succ, Nat.add_zero] at ca0 ca1 ca2 cb0 cb1 cb2
      have n7 : (h : Int) < n := by omega
      have n9 : (a : Int) < n := by omega
      by_cases hk2 : x.1 < y.1
      · have hd : decide (cmpv (x.1 : Int) (y.1 : Int) < 0) = true := by rw [decide_eq_true_eq, cmpv_lt]; exact hk2
        have HK : Hd (ky (d h) < ky (d a)) := ⟨by rw [← HX.out, ← HY.out]; unfold ky; omega⟩
        go_region_held3 (fun w' => w'.cell? ⟨g, h * 3, none⟩ = some (.int .i64 x.1) ∧ w'.cell? ⟨g, h * 3 + 1, none⟩ = some (.int .i64 x.2) ∧ w'.cell? ⟨g, h * 3 + 2, none⟩ = some (.slice none 0 0) ∧ w'.cell? ⟨g, a * 3, none⟩ = some (.int .i64 y.1) ∧ w'.cell? ⟨g, a * 3 + 1, none⟩ = some (.int .i64 y.2) ∧ w'.cell? ⟨g, a * 3 + 2, none⟩ = some (.slice none 0 0)) (go_keep)
          (first | (go_at_call 109; refine (less_any _ x y).mono ?_; rintro e w5 ⟨rfl, q5⟩; have k0 := Fr.cellAt q5 (by simp) ca0; have k1 := Fr.cellAt q5 (by simp) ca1; have k2 := Fr.cellAt q5 (by simp) ca2; have l0 := Fr.cellAt q5 (by simp) cb0; have l1 := Fr.cellAt q5 (by simp) cb1; have l2 := Fr.cellAt q5 (by simp) cb2; have Q5 := Hd.mk q5; clear q5))
        clear ca0 ca1 ca2 cb0 cb1 cb2 k0 k1 k2 l0 l1 l2 n7 n9
        have HW5 := Hd.mk (HW.out.frame Q5.out.ofDrew (by simp))
        have HF5 := Hd.mk (HF.out.trans Q5.out.ofDrew (by simp))
        go_wp2
        go_roundg (gk - 1)
        case measure => omega
        case rel => exact ⟨h + 1, j, by go_num, rfl, by omega, by omega, by omega, by omega, ⟨fun q q1 q2 => by
          have := HS.out.key_le q1 (show q ≤ h by omega) (by omega)
          have := HK.out
          omega⟩, HB, HW5, HF5⟩
      · have hd : decide (cmpv (x.1 : Int) (y.1 : Int) < 0) = false := by rw [decide_eq_false_iff_not, cmpv_lt]; exact hk2
        have HK : Hd (ky (d a) ≤ ky (d h)) := ⟨by rw [← HX.out, ← HY.out]; unfold ky; omega⟩
        go_region_held3 (fun w' => w'.cell? ⟨g, h * 3, none⟩ = some (.int .i64 x.1) ∧ w'.cell? ⟨g, h * 3 + 1, none⟩ = some (.int .i64 x.2) ∧ w'.cell? ⟨g, h * 3 + 2, none⟩ = some (.slice none 0 0) ∧ w'.cell? ⟨g, a * 3, none⟩ = some (.int .i64 y.1) ∧ w'.cell? ⟨g, a * 3 + 1, none⟩ = some (.int .i64 y.2) ∧ w'.cell? ⟨g, a * 3 + 2, none⟩ = some (.slice none 0 0)) (go_keep)
          (first | (go_at_call 109; refine (less_any _ x y).mono ?_; rintro e w5 ⟨rfl, q5⟩; have k0 := Fr.cellAt q5 (by simp) ca0; have k1 := Fr.cellAt q5 (by simp) ca1; have k2 := Fr.cellAt q5 (by simp) ca2; have l0 := Fr.cellAt q5 (by simp) cb0; have l1 := Fr.cellAt q5 (by simp) cb1; have l2 := Fr.cellAt q5 (by simp) cb2; have Q5 := Hd.mk q5; clear q5))
        clear ca0 ca1 ca2 cb0 cb1 cb2 k0 k1 k2 l0 l1 l2 n7 n9
        have HW5 := Hd.mk (HW.out.frame Q5.out.ofDrew (by simp))
        have HF5 := Hd.mk (HF.out.trans Q5.out.ofDrew (by simp))
        go_wp2
        go_roundg (gk - 1)
        case measure => omega
        case rel => exact ⟨i, h, rfl, rfl, by omega, by omega, by omega, by omega, HA, ⟨fun q q1 q2 => by
          have := HS.out.key_le (show a + 1 ≤ h by omega) q1 q2
          have := HK.out
          omega⟩, HW5, HF5⟩
    · obtain rfl : i = j := by omega
      go_wp2
      go_loopg [13] (i - 1 - a) (fun kq kv wr2 => ∃ (k : Nat), kv = .int .i64 (k : Nat) ∧ a ≤ k ∧ k ≤ i - 1 ∧ i - 1 - k ≤ kq ∧ Hd (Ch n a b d (shl d a k)) ∧ Hd (Rw wr2 g n (shl d a k)) ∧ Hd (Fr w wr2 [g]))
      case atStart => exact ⟨a, rfl, by omega, by omega, by omega, ⟨by rw [shl_start]; exact Ch.refl _ _ _ _⟩, ⟨by rw [shl_start]; exact HW.out⟩, HF⟩
      case round =>
        obtain ⟨k, rfl, hak, hki, hkk, HC, HW2, HF2⟩ := hrel
        by_cases hlt2 : k < i - 1
        · have n0 : (k : Int) < (i : Int) - 1 := by omega
          go_upto_region 11 with (fail)
          have ca0 := HW2.out.cell (i := k) (j := 0) (by omega) (by decide)
          have ca1 := HW2.out.cell (i := k) (j := 1) (by omega) (by decide)
          have ca2 := HW2.out.cell (i := k) (j := 2) (by omega) (by decide)
          have cb0 := HW2.out.cell (i := k + 1) (j := 0) (by omega) (by decide)
          have cb1 := HW2.out.cell (i := k + 1) (j := 1) (by omega) (by decide)
          have cb2 := HW2.out.cell (i := k + 1) (j := 2) (by omega) (by decide)
          obtain ⟨x, hx⟩ : ∃ x, x = shl d a k k := ⟨_, rfl⟩
          obtain ⟨y, hy⟩ : ∃ y, y = shl d a k (k + 1) := ⟨_, rfl⟩
          rw [← hx] at ca0 ca1 ca2
          rw [← hy] at cb0 cb1 cb2
          have HX := Hd.mk hx
          have HY := Hd.mk hy
          clear hx hy
          simp only [lfc, List.getElem?_cons_zero, List.getElem?_cons_succ, Nat.add_zero] at ca0 ca1 ca2 cb0 cb1 cb2
          have fr : ∀ o, wr.frozen? ⟨g, o, none⟩ = false := HW2.out.free
          have n1 : ((k : Int) + 1).toNat = k + 1 := by omega
          have n3 : IntKind.i64.wrap ((k : Int) + 1) = (k : Int) + 1 := IntWalk.i64_in _ (by omega)
          have n5 : (0 : Int) ≤ (k : Int) + 1 := by omega
          have n7 : ((k : Int) + 1) < n := by omega
          have n9 : (k : Int) < n := by omega
          go_region
          have HP : Hd (Rw (six wr g k (k + 1) x y).drew g n (shl d a (k + 1))) := ⟨by rw [← shl_step d hak]; exact (HW2.out.swap (by omega) (by omega) (by omega) HX.out HY.out).drew⟩
          have HG : Hd (Fr w (six wr g k (k + 1) x y).drew [g]) := ⟨(Fr.six HF2.out (by simp)).drew⟩
          have HD : Hd (Ch n a b d (shl d a (k + 1))) := ⟨by rw [← shl_step d hak]; exact HC.out.trans (Ch.sw _ h2 (by omega) (by omega))⟩
          clear n1 n3 n5 n7 n9 ca0 ca1 ca2 cb0 cb1 cb2 fr
          unfold six at HP HG
          go_wp2
          go_roundg (gk - 1)
          case measure => omega
          case rel => exact ⟨k + 1, by go_num, by omega, by omega, by omega, HD, HP, HG⟩
        · obtain rfl : k = i - 1 := by omega
          have n0 : ¬ ((i - 1 : Nat) : Int) < (i : Int) - 1 := by omega
          go_wp2
          (try simp only [Exit.inBlock, Exit.then]); refine bodyPost_ret (results_none rfl _ _ _) rfl ?_
          exact ⟨rfl, ⟨_, HW2.out, HC.out, shl_srt HS.out HL.out hai hjb HA.out (fun q q1 q2 => Int.not_lt.2 (HB.out q q1 q2))⟩, HF2.out⟩
set_option maxHeartbeats 2000000 in
theorem merge_last (w : World) (g n c : Nat) (d : Nat → Nat × Nat) (a m b : Nat) (hb : b = m + 1) (hR : Rw w g n d) (hn : n ≤ 1099511627776) (hnc : n ≤ c) (h1 : a + 1 < m) (h2 : b ≤ n) (hs : Srt ky rk d a m) (hl : Lo rk d a m (m + 1)) :
    Calls Tryz.prog 150 #[.slice (some ⟨g, 0, none⟩) n c, .int .i64 (a : Nat), .int .i64 (m : Nat), .int .i64 (b : Nat), lfn] w fun e w' => e = .returned (.tuple #[]) ∧ (∃ d', Rw w' g n d' ∧ Ch n a b d d' ∧ Srt ky rk d' a b) ∧ Fr w w' [g] := by
  have HR := Hd.mk hR
  have HS := Hd.mk hs
  have HL := Hd.mk hl
  clear hR hs hl
  unfold lfn
  have e0 : (((m : Int) - (a : Int) == 1)) = false := by simp; omega
  have e3 : (((b : Int) - (m : Int) == 1)) = true := by simp; omega
  have e2 : a ≤ m ∧ m ≤ b ∧ m < n := by omega
  have HM := Hd.mk hb
  clear hb
  go_enter Tryz.func150, Tryz.ntmps150
  go_wp2
  go_loopg [14, 15] (m - a) (fun kq iv jv wr => ∃ (i j : Nat), iv = .int .i64 (i : Nat) ∧ jv = .int .i64 (j : Nat) ∧ a ≤ i ∧ i ≤ j ∧ j ≤ m ∧ j - i ≤ kq ∧ Hd (∀ q, a ≤ q → q < i → ky (d q) ≤ ky (d m)) ∧ Hd (∀ q, j ≤ q → q < m → ky (d m) < ky (d q)) ∧ Hd (Rw wr g n d) ∧ Hd (Fr w wr [g]))
  case atStart => exact ⟨a, m, rfl, rfl, by omega, by omega, by omega, by omega, ⟨fun q q1 q2 => by omega⟩, ⟨fun q q1 q2 => by omega⟩, HR, ⟨Fr.refl _ _⟩⟩
  case round =>
    obtain ⟨i, j, rfl, rfl, hai, hij, hjb, hk, HA, HB, HW, HF⟩ := hrel
    by_cases hlt : i < j
    · obtain ⟨h, hh⟩ : ∃ h, h = (i + j) / 2 := ⟨_, rfl⟩
      go_upto_region 17 with (fail)
      rw [show ((i : Int) + (j : Int)) / 2 = ((h : Nat) : Int) from by omega]
      have ca0 := HW.out.cell (i := m) (j := 0) (by omega) (by decide)
      have ca1 := HW.out.cell (i := m) (j := 1) (by omega) (by decide)
      have ca2 := HW.out.cell (i := m) (j := 2) (by omega) (by decide)
      have cb0 := HW.out.cell (i := h) (j := 0) (by omega) (by decide)
      have cb1 := HW.out.cell (i := h) (j := 1) (by omega) (by decide)
      have cb2 := HW.out.cell (i := h) (j := 2) (by omega) (by decide)
      obtain ⟨x, hx⟩ : ∃ x, x = d m := ⟨_, rfl⟩
      obtain ⟨y, hy⟩ : ∃ y, y = d h := ⟨_, rfl⟩
      rw [← hx] at ca0 ca1 ca2
      rw [← hy] at cb0 cb1 cb2
      have HX := Hd.mk hx
      have HY := Hd.mk hy
      have HH := Hd.mk hh
      have hhb : i ≤ h ∧ h < j := by omega
      clear hx hy hh
      simp only [lfc, List.getElem?_cons_zero, List.getElem?_cons_succ, Nat.add_zero] at ca0 ca1 ca2 cb0 cb1 cb2
      have n7 : (h : Int) < n := by omega
      have n9 : (m : Int) < n := by omega
      by_cases hk2 : x.1 < y.1
      · have hd : decide (cmpv (x.1 : Int) (y.1 : Int) < 0) = true := by rw [decide_eq_true_eq, cmpv_lt]; exact hk2
        have HK : Hd (ky (d m) < ky (d h)) := ⟨by rw [← HX.out, ← HY.out]; unfold ky; omega⟩
        go_region_held3 (fun w' => w'.cell? ⟨g, m * 3, none⟩ = some (.int .i64 x.1) ∧ w'.cell? ⟨g, m * 3 + 1, none⟩ = some (.int .i64 x.2) ∧ w'.cell? ⟨g, m * 3 + 2, none⟩ = some (.slice none 0 0) ∧ w'.cell? ⟨g, h * 3, none⟩ = some (.int .i64 y.1) ∧ w'.cell? ⟨g, h * 3 + 1, none⟩ = some (.int .i64 y.2) ∧ w'.cell? ⟨g, h * 3 + 2, none⟩ = some (.slice none 0 0)) (go_keep)
          (first | (go_at_call 109; refine (less_any _ x y).mono ?_; rintro e w5 ⟨rfl, q5⟩; have k0 := Fr.cellAt q5 (by simp) ca0; have k1 := Fr.cellAt q5 (by simp) ca1; have k2 := Fr.cellAt q5 (by simp) ca2; have l0 := Fr.cellAt q5 (by simp) cb0; have l1 := Fr.cellAt q5 (by simp) cb1; have l2 := Fr.cellAt q5 (by simp) cb2; have Q5 := Hd.mk q5; clear q5))
        clear ca0 ca1 ca2 cb0 cb1 cb2 k0 k1 k2 l0 l1 l2 n7 n9
        have HW5 := Hd.mk (HW.out.frame Q5.out.ofDrew (by simp))
        have HF5 := Hd.mk (HF.out.trans Q5.out.ofDrew (by simp))
        go_wp2
        go_roundg (gk - 1)
        case measure => omega
        case rel => exact ⟨i, h, rfl, rfl, by omega, by omega, by omega, by omega, HA, ⟨fun q q1 q2 => by
          have := HS.out.key_le (show a ≤ h by omega) q1 q2
          have := HK.out
          omega⟩, HW5, HF5⟩
      · have hd : decide (cmpv (x.1 : Int) (y.1 : Int) < 0) = false := by rw [decide_eq_false_iff_not, cmpv_lt]; exact hk2
        have HK : Hd (ky (d h) ≤ ky (d m)) := ⟨by rw [← HX.out, ← HY.out]; unfold ky; omega⟩
        go_region_held3 (fun w' => w'.cell? ⟨g, m * 3, none⟩ = some (.int .i64 x.1) ∧ w'.cell? ⟨g, m * 3 + 1, none⟩ = some (.int .i64 x.2) ∧ w'.cell? ⟨g, m * 3 + 2, none⟩ = some (.slice none 0 0) ∧ w'.cell? ⟨g, h * 3, none⟩ = some (.int .i64 y.1) ∧ w'.cell? ⟨g, h * 3 + 1, none⟩ = some (.int .i64 y.2) ∧ w'.cell? ⟨g, h * 3 + 2, none⟩ = some (.slice none 0 0)) (go_keep)
          (first | (go_at_call 109; refine (less_any _ x y).mono ?_; rintro e w5 ⟨rfl, q5⟩; have k0 := Fr.cellAt q5 (by simp) ca0; have k1 := Fr.cellAt q5 (by simp) ca1; have k2 := Fr.cellAt q5 (by simp) ca2; have l0 := Fr.cellAt q5 (by simp) cb0; have l1 := Fr.cellAt q5 (by simp) cb1; have l2 := Fr.cellAt q5 (by simp) cb2; have Q5 := Hd.mk q5; clear q5))
        clear ca0 ca1 ca2 cb0 cb1 cb2 k0 k1 k2 l0 l1 l2 n7 n9
        have HW5 := Hd.mk (HW.out.frame Q5.out.ofDrew (by simp))
        have HF5 := Hd.mk (HF.out.trans Q5.out.ofDrew (by simp))
        go_wp2
        go_roundg (gk - 1)
        case measure => omega
        case rel => exact ⟨h + 1, j, by go_num, rfl, by omega, by omega, by omega, by omega, ⟨fun q q1 q2 => by
          have := HS.out.key_le q1 (show q ≤ h by omega) (by omega)
          have := HK.out
          omega⟩, HB, HW5, HF5⟩
    · obtain rfl : i = j := by omega
      go_wp2
      go_loopg [17] (m - i) (fun kq kv wr2 => ∃ (k : Nat), kv = .int .i64 (k : Nat) ∧ i ≤ k ∧ k ≤ m ∧ k - i ≤ kq ∧ Hd (Ch n a b d (shr d m k)) ∧ Hd (Rw wr2 g n (shr d m k)) ∧ Hd (Fr w wr2 [g]))
      case atStart => exact ⟨m, rfl, by omega, by omega, by omega, ⟨by rw [shr_start]; exact Ch.refl _ _ _ _⟩, ⟨by rw [shr_start]; exact HW.out⟩, HF⟩
      case round =>
        obtain ⟨k, rfl, hak, hki, hkk, HC, HW2, HF2⟩ := hrel
        by_cases hlt2 : i < k
        · go_upto_region 23 with (fail)
          have ca0 := HW2.out.cell (i := k) (j := 0) (by omega) (by decide)
          have ca1 := HW2.out.cell (i := k) (j := 1) (by omega) (by decide)
          have ca2 := HW2.out.cell (i := k) (j := 2) (by omega) (by decide)
          have cb0 := HW2.out.cell (i := k - 1) (j := 0) (by omega) (by decide)
          have cb1 := HW2.out.cell (i := k - 1) (j := 1) (by omega) (by decide)
          have cb2 := HW2.out.cell (i := k - 1) (j := 2) (by omega) (by decide)
          obtain ⟨x, hx⟩ : ∃ x, x = shr d m k k := ⟨_, rfl⟩
          obtain ⟨y, hy⟩ : ∃ y, y = shr d m k (k - 1) := ⟨_, rfl⟩
          rw [← hx] at ca0 ca1 ca2
          rw [← hy] at cb0 cb1 cb2
          have HX := Hd.mk hx
          have HY := Hd.mk hy
          clear hx hy
          simp only [lfc, List.getElem?_cons_zero, List.getElem?_cons_succ, Nat.add_zero] at ca0 ca1 ca2 cb0 cb1 cb2
          have fr : ∀ o, wr.frozen? ⟨g, o, none⟩ = false := HW2.out.free
          have n0 : (1 : Int) ≤ (k : Int) := by omega
          have n1 : ((k : Int) - 1).toNat = k - 1 := by omega
          have n3 : IntKind.i64.wrap ((k : Int) - 1) = (k : Int) - 1 := IntWalk.i64_in _ (by omega)
          have n5 : (0 : Int) ≤ (k : Int) - 1 := by omega
          have n7 : ((k : Int) - 1) < n := by omega
          have n9 : (k : Int) < n := by omega
          go_region
          have HP : Hd (Rw (six wr g k (k - 1) x y).drew g n (shr d m (k - 1))) := ⟨by rw [← shr_step d hki (by omega)]; exact (HW2.out.swap (by omega) (by omega) (by omega) HX.out HY.out).drew⟩
          have HG : Hd (Fr w (six wr g k (k - 1) x y).drew [g]) := ⟨(Fr.six HF2.out (by simp)).drew⟩
          have HD : Hd (Ch n a b d (shr d m (k - 1))) := ⟨by have := HM.out; rw [← shr_step d hki (by omega)]; exact HC.out.trans (Ch.sw _ h2 (by omega) (by omega))⟩
          clear n1 n3 n5 n7 n9 ca0 ca1 ca2 cb0 cb1 cb2 fr
          unfold six at HP HG
          go_wp2
          go_roundg (gk - 1)
          case measure => omega
          case rel => exact ⟨k - 1, by go_num, by omega, by omega, by omega, HD, HP, HG⟩
        · obtain rfl : i = k := by omega
          go_wp2
          (try simp only [Exit.inBlock, Exit.then]); refine bodyPost_ret (results_none rfl _ _ _) rfl ?_
          exact ⟨rfl, ⟨_, HW2.out, HC.out, by rw [HM.out]; exact shr_srt HS.out HL.out hai hjb (fun q q1 q2 => Int.not_lt.2 (HA.out q q1 q2)) HB.out⟩, HF2.out⟩
end Go.Proofs.YtlfckpmdmkccjaaGreat.Sort
