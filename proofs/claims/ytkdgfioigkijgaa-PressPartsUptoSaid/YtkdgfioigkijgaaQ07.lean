/- Texts of this claim, one behind the other: SortB, SortC, SortD, SortE. -/
import Derived.Test.YtkdgfioigkijgaaQ01
import Derived.Test.YtkdgfioigkijgaaQ03
import Derived.Test.YtkdgfioigkijgaaQ06
import Derived.Deep.RegionHeld3
import Derived.Deep.CutRange
import Derived.Deep.Light
/- Stable sorting of leaves (chapter 04): rotation, insertion. Conditions: at most 2^40 items. -/
set_option linter.unusedVariables false
set_option linter.unusedSimpArgs false
set_option maxRecDepth 100000
namespace Go.Proofs.Ytkdgfioigkijgaa.Sort
open Go.RowKit Go.Proofs.Ytkdgfioigkijgaa.Lib Go.Proofs.Ytkdgfioigkijgaa.Ints Go.Proofs.Ytkdgfioigkijgaa.Sorts

set_option maxHeartbeats 4000000 in
theorem rotate_any (w : World) (g n c : Nat) (d : Nat → Nat × Nat) (a m b : Nat) (f : Value) (hR : Rw w g n d) (hn : n ≤ 1099511627776) (hnc : n ≤ c) (h1 : a < m) (h2 : m < b) (h3 : b ≤ n) :
    Calls Try.prog 105 #[.slice (some ⟨g, 0, none⟩) n c, .int .i64 (a : Nat), .int .i64 (m : Nat), .int .i64 (b : Nat), f] w fun e w' => e = .returned (.tuple #[]) ∧ Rw w' g n (rot d a m b) ∧ Ch n a b d (rot d a m b) ∧ Fr w w' [g] := by
  have HR := Hd.mk hR
  clear hR
  go_enter Try.func105, Try.ntmps105
  go_wp2
  go_loopg [10, 11] (b - a) (fun kq iv jv wr => ∃ (i j : Nat) (d' : Nat → Nat × Nat), iv = .int .i64 (i : Nat) ∧ jv = .int .i64 (j : Nat) ∧ 0 < i ∧ 0 < j ∧ i ≤ m - a ∧ j ≤ b - m ∧ i + j ≤ kq ∧ Hd (Rot n a m b i j d d') ∧ Hd (Rw wr g n d') ∧ Hd (Fr w wr [g]))
  case atStart => exact ⟨m - a, b - m, d, by go_num, by go_num, by omega, by omega, by omega, by omega, by omega, ⟨Rot.start d h1 h2⟩, HR, ⟨Fr.refl _ _⟩⟩
  case round =>
    obtain ⟨i, j, d', rfl, rfl, hi0, hj0, hi, hj, hk, HT, HW, HF⟩ := hrel
    by_cases hij : i = j
    · subst hij
      have e1 : ((i : Int) != (i : Int)) = false := by simp
      have e3 : Hd ((m : Int) - (i : Int) = ((m - i : Nat) : Int)) := ⟨by omega⟩
      go_wp2_with (fail)
      rw [e3.out]
      refine (swapRange_any _ g n c d' (m - i) m i f HW.out hn hnc (by omega) (by omega)).mono ?_
      rintro e w1 ⟨rfl, q1, q2⟩
      have HW1 := Hd.mk q1
      have HF1 := Hd.mk (HF.out.trans q2 (by simp))
      clear q1 q2
      go_wp2
      go_end0
      have := HT.out.last h1 h2 h3
      have h5 := this.2
      rw [this.1] at h5
      rw [← this.1]
      exact ⟨rfl, HW1.out, by rw [this.1]; exact h5, HF1.out⟩
    · have e1 : ((i : Int) != (j : Int)) = true := by simp; omega
      have e3 : Hd ((m : Int) - (i : Int) = ((m - i : Nat) : Int)) := ⟨by omega⟩
      by_cases hlt : j < i
      · go_wp2_with (fail)
        rw [e3.out]
        refine (swapRange_any _ g n c d' (m - i) m j f HW.out hn hnc (by omega) (by omega)).mono ?_
        rintro e w1 ⟨rfl, q1, q2⟩
        have HW1 := Hd.mk q1
        have HF1 := Hd.mk (HF.out.trans q2 (by simp))
        clear q1 q2
        go_wp2
        go_roundg (gk - 1)
        case measure => omega
        case rel => exact ⟨i - j, j, _, by go_num, rfl, by omega, by omega, by omega, by omega, by omega, ⟨HT.out.left hlt h1 h2 h3⟩, HW1, HF1⟩
      · have e4 : Hd ((m : Int) + (j : Int) - (i : Int) = ((m + j - i : Nat) : Int)) := ⟨by omega⟩
        go_wp2_with (fail)
        rw [e3.out, e4.out]
        refine (swapRange_any _ g n c d' (m - i) (m + j - i) i f HW.out hn hnc (by omega) (by omega)).mono ?_
        rintro e w1 ⟨rfl, q1, q2⟩
        have HW1 := Hd.mk q1
        have HF1 := Hd.mk (HF.out.trans q2 (by simp))
        clear q1 q2
        go_wp2
        go_roundg (gk - 1)
        case measure => omega
        case rel => exact ⟨i, j - i, _, rfl, by go_num, by omega, by omega, by omega, by omega, by omega, ⟨HT.out.right (by omega) h1 h2 h3⟩, HW1, HF1⟩
/-- the function value that leaves are sorted by -/
def lfn : Value := .func (.func 81) #[] #[]
def ky (x : Nat × Nat) : Int := x.1
def rk (x : Nat × Nat) : Nat := x.2
theorem cmpv_lt (a b : Nat) : cmpv (a : Int) (b : Int) < 0 ↔ a < b := by
  unfold cmpv
  by_cases h : (a : Int) < b
  · rw [if_pos h]; omega
  · rw [if_neg h]
    by_cases k : (b : Int) < a
    · rw [if_pos k]; omega
    · rw [if_neg k]; omega
set_option maxHeartbeats 1000000 in
theorem insertion_any (w : World) (g n c : Nat) (d : Nat → Nat × Nat) (a b : Nat) (hR : Rw w g n d) (hn : n ≤ 1099511627776) (hnc : n ≤ c) (h1 : a ≤ b) (h2 : b ≤ n) (hinc : ∀ p q, a ≤ p → p < q → q < b → rk (d p) < rk (d q)) :
    Calls Try.prog 97 #[.slice (some ⟨g, 0, none⟩) n c, .int .i64 (a : Nat), .int .i64 (b : Nat), lfn] w fun e w' => e = .returned (.tuple #[]) ∧ (∃ d', Rw w' g n d' ∧ Ch n a b d d' ∧ Srt ky rk d' a b) ∧ Fr w w' [g] := by
  have HR := Hd.mk hR
  have HI := Hd.mk hinc
  clear hR hinc
  unfold lfn
  go_enter Try.func97, Try.ntmps97
  go_wp2
  go_loopg [8] (b - a) (fun kq iv wr => ∃ (i : Nat) (d' : Nat → Nat × Nat), iv = .int .i64 (i : Nat) ∧ a < i ∧ b - i ≤ kq ∧ (i ≤ b ∨ i = a + 1) ∧ Hd (Ch n a i d d') ∧ Hd (Srt ky rk d' a i) ∧ Hd (Rw wr g n d') ∧ Hd (Fr w wr [g]))
  case atStart => exact ⟨a + 1, d, by go_num, by omega, by omega, .inr rfl, ⟨Ch.refl _ _ _ _⟩, ⟨fun p q e1 e2 e3 => by omega⟩, HR, ⟨Fr.refl _ _⟩⟩
  case round =>
    obtain ⟨i, d1, rfl, hai, hik, hib, HC, HS, HW, HF⟩ := hrel
    obtain ⟨gko, rfl⟩ : ∃ gko, gko = gk := ⟨_, rfl⟩
    by_cases hlt : i < b
    · have HIns : Hd (Ins ky rk n a i i d1 d1) := ⟨Ins.start HS.out (fun p e1 e2 => by
        obtain ⟨j, j1, j2, j3⟩ := HC.out.inn p e1 e2
        rw [j3, HC.out.out i (by omega)]
        exact HI.out j i j1 j2 hlt) (by omega)⟩
      go_wp2
      go_loopg [9] i (fun kq jv wr => ∃ (j : Nat) (d' : Nat → Nat × Nat), jv = .int .i64 (j : Nat) ∧ a ≤ j ∧ j ≤ i ∧ j ≤ kq ∧ Hd (Ins ky rk n a i j d1 d') ∧ Hd (Rw wr g n d') ∧ Hd (Fr w wr [g]))
      case atStart => exact ⟨i, d1, rfl, by omega, by omega, by omega, HIns, HW, HF⟩
      case round =>
        obtain ⟨j, d2, rfl, haj, hji, hjk, HJ, HW2, HF2⟩ := hrel
        by_cases hgt : a < j
        · have ca0 := HW2.out.cell (i := j) (j := 0) (by omega) (by decide)
          have ca1 := HW2.out.cell (i := j) (j := 1) (by omega) (by decide)
          have ca2 := HW2.out.cell (i := j) (j := 2) (by omega) (by decide)
          have cb0 := HW2.out.cell (i := j - 1) (j := 0) (by omega) (by decide)
          have cb1 := HW2.out.cell (i := j - 1) (j := 1) (by omega) (by decide)
          have cb2 := HW2.out.cell (i := j - 1) (j := 2) (by omega) (by decide)
          obtain ⟨x, hx⟩ : ∃ x, x = d2 j := ⟨_, rfl⟩
          obtain ⟨y, hy⟩ : ∃ y, y = d2 (j - 1) := ⟨_, rfl⟩
          rw [← hx] at ca0 ca1 ca2
          rw [← hy] at cb0 cb1 cb2
          have HX := Hd.mk hx
          have HY := Hd.mk hy
          clear hx hy
          simp only [lfc, List.getElem?_cons_zero, List.getElem?_cons_succ, Nat.add_zero] at ca0 ca1 ca2 cb0 cb1 cb2
          have n0 : (1 : Int) ≤ (j : Int) := by omega
          have n1 : ((j : Int) - 1).toNat = j - 1 := by omega
          have n3 : IntKind.i64.wrap ((j : Int) - 1) = (j : Int) - 1 := IntWalk.i64_in _ (by omega)
          have n5 : (0 : Int) ≤ (j : Int) - 1 := by omega
          have n7 : ((j : Int) - 1) < n := by omega
          have n9 : (j : Int) < n := by omega
          by_cases hk : x.1 < y.1
          · have hd : decide (cmpv (x.1 : Int) (y.1 : Int) < 0) = true := by rw [decide_eq_true_eq, cmpv_lt]; exact hk
            have HK : Hd (ky (d2 j) < ky (d2 (j - 1))) := ⟨by rw [← HX.out, ← HY.out]; unfold ky; omega⟩
            go_upto_region 4 with (fail)
            go_region_held3 (fun w' => w'.cell? ⟨g, j * 3, none⟩ = some (.int .i64 x.1) ∧ w'.cell? ⟨g, j * 3 + 1, none⟩ = some (.int .i64 x.2) ∧ w'.cell? ⟨g, j * 3 + 2, none⟩ = some (.slice none 0 0) ∧ w'.cell? ⟨g, (j - 1) * 3, none⟩ = some (.int .i64 y.1) ∧ w'.cell? ⟨g, (j - 1) * 3 + 1, none⟩ = some (.int .i64 y.2) ∧ w'.cell? ⟨g, (j - 1) * 3 + 2, none⟩ = some (.slice none 0 0)) (go_keep)
              (first | (go_at_call 81; refine (less_any _ x y).mono ?_; rintro e w5 ⟨rfl, q5⟩; have k0 := Fr.cellAt q5 (by simp) ca0; have k1 := Fr.cellAt q5 (by simp) ca1; have k2 := Fr.cellAt q5 (by simp) ca2; have l0 := Fr.cellAt q5 (by simp) cb0; have l1 := Fr.cellAt q5 (by simp) cb1; have l2 := Fr.cellAt q5 (by simp) cb2; have Q5 := Hd.mk q5; clear q5))
            rename_i w5 k0 k1 k2 l0 l1 l2 Q5 hHeld
            clear hHeld ca0 ca1 ca2 cb0 cb1 cb2
            have HW5 := Hd.mk (HW2.out.frame Q5.out.ofDrew (by simp))
            have HF5 := Hd.mk (HF2.out.trans Q5.out.ofDrew (by simp))
            have fr : ∀ o, w5.frozen? ⟨g, o, none⟩ = false := HW5.out.free
            go_upto_region 6 with (fail)
            go_region
            have HP : Hd (Rw (six w5 g j (j - 1) x y).drew g n (sw d2 j (j - 1))) := ⟨(HW5.out.swap (by omega) (by omega) (by omega) HX.out HY.out).drew⟩
            have HG : Hd (Fr w (six w5 g j (j - 1) x y).drew [g]) := ⟨(Fr.six HF5.out (by simp)).drew⟩
            clear n1 n3 n5 n7 n9 k0 k1 k2 l0 l1 l2 fr hd
            unfold six at HP HG
            go_wp2
            go_roundg (gk - 1)
            case measure => omega
            case rel => exact ⟨j - 1, _, by go_num, by omega, by omega, by omega, ⟨HJ.out.step hgt (by omega) HK.out⟩, HP, HG⟩
          · have hd : decide (cmpv (x.1 : Int) (y.1 : Int) < 0) = false := by rw [decide_eq_false_iff_not, cmpv_lt]; exact hk
            have HK : Hd (ky (d2 (j - 1)) ≤ ky (d2 j)) := ⟨by rw [← HX.out, ← HY.out]; unfold ky; omega⟩
            go_upto_region 4 with (fail)
            go_region_held3 (fun w' => w'.cell? ⟨g, j * 3, none⟩ = some (.int .i64 x.1) ∧ w'.cell? ⟨g, j * 3 + 1, none⟩ = some (.int .i64 x.2) ∧ w'.cell? ⟨g, j * 3 + 2, none⟩ = some (.slice none 0 0) ∧ w'.cell? ⟨g, (j - 1) * 3, none⟩ = some (.int .i64 y.1) ∧ w'.cell? ⟨g, (j - 1) * 3 + 1, none⟩ = some (.int .i64 y.2) ∧ w'.cell? ⟨g, (j - 1) * 3 + 2, none⟩ = some (.slice none 0 0)) (go_keep)
              (first | (go_at_call 81; refine (less_any _ x y).mono ?_; rintro e w5 ⟨rfl, q5⟩; have k0 := Fr.cellAt q5 (by simp) ca0; have k1 := Fr.cellAt q5 (by simp) ca1; have k2 := Fr.cellAt q5 (by simp) ca2; have l0 := Fr.cellAt q5 (by simp) cb0; have l1 := Fr.cellAt q5 (by simp) cb1; have l2 := Fr.cellAt q5 (by simp) cb2; have Q5 := Hd.mk q5; clear q5))
            rename_i w5 k0 k1 k2 l0 l1 l2 Q5 hHeld
            clear hHeld ca0 ca1 ca2 cb0 cb1 cb2 k0 k1 k2 l0 l1 l2 n1 n3 n5 n7 n9
            have HW5 := Hd.mk (HW2.out.frame Q5.out.ofDrew (by simp))
            have HF5 := Hd.mk (HF2.out.trans Q5.out.ofDrew (by simp))
            go_wp2
            go_roundg (gko - 1)
            case measure => omega
            case rel => exact ⟨i + 1, d2, by go_num, by omega, by omega, .inl (by omega), ⟨(HC.out.wide (Nat.le_refl _) (by omega)).trans HJ.out.ch⟩, ⟨HJ.out.done (.inr (Int.not_lt.2 HK.out))⟩, HW5, HF5⟩
        · obtain rfl : j = a := by omega
          have hd : decide ((j : Int) < (j : Int)) = false := by simp
          go_wp2
          go_region
          go_wp2
          go_roundg (gko - 1)
          case measure => omega
          case rel => exact ⟨i + 1, d2, by go_num, by omega, by omega, .inl (by omega), ⟨(HC.out.wide (Nat.le_refl _) (by omega)).trans HJ.out.ch⟩, ⟨HJ.out.done (.inl rfl)⟩, ⟨HW2.out.drew⟩, ⟨HF2.out.drew⟩⟩
    · go_wp2
      go_end0
      have hib2 : (a < b ∧ i = b) ∨ (a = b ∧ i = a + 1) := by omega
      rcases hib2 with ⟨e1, e2⟩ | ⟨e1, e2⟩
      · subst e2
        exact ⟨rfl, ⟨d1, HW.out, HC.out, HS.out⟩, HF.out⟩
      · subst e1 e2
        refine ⟨rfl, ⟨d1, HW.out, ?_, fun p q a1 a2 a3 => by omega⟩, HF.out⟩
        refine ⟨fun k hk => ?_, fun k k1 k2 => by omega, HC.out.pm⟩
        by_cases hka : k = a
        · obtain ⟨j, j1, j2, j3⟩ := HC.out.inn k (by omega) (by omega)
          rw [j3]; congr 1; omega
        · exact HC.out.out k (by omega)
end Go.Proofs.Ytkdgfioigkijgaa.Sort
/- Stable sorting of leaves (chapter 04): two sorted neighbours merged where one of them has one item. Conditions: at most 2^40 items. -/
set_option linter.unusedVariables false
set_option linter.unusedSimpArgs false
set_option maxRecDepth 100000
namespace Go.Proofs.Ytkdgfioigkijgaa.Sort
open Go.RowKit Go.Proofs.Ytkdgfioigkijgaa.Lib Go.Proofs.Ytkdgfioigkijgaa.Ints Go.Proofs.Ytkdgfioigkijgaa.Sorts

set_option maxHeartbeats 2000000 in
theorem merge_first (w : World) (g n c : Nat) (d : Nat → Nat × Nat) (a m b : Nat) (hm : m = a + 1) (hR : Rw w g n d) (hn : n ≤ 1099511627776) (hnc : n ≤ c) (h1 : a + 1 < b) (h2 : b ≤ n) (hs : Srt ky rk d (a + 1) b) (hl : Lo rk d a (a + 1) b) :
    Calls Try.prog 98 #[.slice (some ⟨g, 0, none⟩) n c, .int .i64 (a : Nat), .int .i64 (m : Nat), .int .i64 (b : Nat), lfn] w fun e w' => e = .returned (.tuple #[]) ∧ (∃ d', Rw w' g n d' ∧ Ch n a b d d' ∧ Srt ky rk d' a b) ∧ Fr w w' [g] := by
  have HR := Hd.mk hR
  have HS := Hd.mk hs
  have HL := Hd.mk hl
  clear hR hs hl
  unfold lfn
  have e0 : (((m : Int) - (a : Int) == 1)) = true := by simp; omega
  have e2 : a ≤ m ∧ m ≤ b := by omega
  have HM := Hd.mk hm
  clear hm
  go_enter Try.func98, Try.ntmps98
  go_wp2
  go_loopg [10, 11] (b - a - 1) (fun kq iv jv wr => ∃ (i j : Nat), iv = .int .i64 (i : Nat) ∧ jv = .int .i64 (j : Nat) ∧ a + 1 ≤ i ∧ i ≤ j ∧ j ≤ b ∧ j - i ≤ kq ∧ Hd (∀ q, a + 1 ≤ q → q < i → ky (d q) < ky (d a)) ∧ Hd (∀ q, j ≤ q → q < b → ¬ ky (d q) < ky (d a)) ∧ Hd (Rw wr g n d) ∧ Hd (Fr w wr [g]))
  case atStart => have := HM.out; exact ⟨m, b, rfl, rfl, by omega, by omega, by omega, by omega, ⟨fun q q1 q2 => by omega⟩, ⟨fun q q1 q2 => by omega⟩, HR, ⟨Fr.refl _ _⟩⟩
  case round =>
    obtain ⟨i, j, rfl, rfl, hai, hij, hjb, hk, HA, HB, HW, HF⟩ := hrel
    by_cases hlt : i < j
    · obtain ⟨h, hh⟩ : ∃ h, h = (i + j) / 2 := ⟨_, rfl⟩
      go_upto_region 5 with (fail)
      rw [show ((i : Int) + (j : Int)) / 2 = ((h : Nat) : Int) from by omega]
      have ca0 := HW.out.cell (i := h) (j := 0) (by omega) (by decide)
      have ca1 := HW.out.cell (i := h) (j := 1) (by omega) (by decide)
      have ca2 := HW.out.cell (i := h) (j := 2) (by omega) (by decide)
      have cb0 := HW.out.cell (i := a) (j := 0) (by omega) (by decide)
      have cb1 := HW.out.cell (i := a) (j := 1) (by omega) (by decide)
      have cb2 := HW.out.cell (i := a) (j := 2) (by omega) (by decide)
      obtain ⟨x, hx⟩ : ∃ x, x = d h := ⟨_, rfl⟩
      obtain ⟨y, hy⟩ : ∃ y, y = d a := ⟨_, rfl⟩
      rw [← hx] at ca0 ca1 ca2
      rw [← hy] at cb0 cb1 cb2
      have HX := Hd.mk hx
      have HY := Hd.mk hy
      have HH := Hd.mk hh
      have hhb : i ≤ h ∧ h < j := by omega
      clear hx hy hh
      simp only [lfc, List.getElem?_cons_zero, List.getElem?_cons_succ, Nat.add_zero] at ca0 ca1 ca2 cb0 cb1 cb2
      have n7 : (h : Int) < n := by omega
      have n9 : (a : Int) < n := by omega
      by_cases hk2 : x.1 < y.1
      · have hd : decide (cmpv (x.1 : Int) (y.1 : Int) < 0) = true := by rw [decide_eq_true_eq, cmpv_lt]; exact hk2
        have HK : Hd (ky (d h) < ky (d a)) := ⟨by rw [← HX.out, ← HY.out]; unfold ky; omega⟩
        go_region_held3 (fun w' => w'.cell? ⟨g, h * 3, none⟩ = some (.int .i64 x.1) ∧ w'.cell? ⟨g, h * 3 + 1, none⟩ = some (.int .i64 x.2) ∧ w'.cell? ⟨g, h * 3 + 2, none⟩ = some (.slice none 0 0) ∧ w'.cell? ⟨g, a * 3, none⟩ = some (.int .i64 y.1) ∧ w'.cell? ⟨g, a * 3 + 1, none⟩ = some (.int .i64 y.2) ∧ w'.cell? ⟨g, a * 3 + 2, none⟩ = some (.slice none 0 0)) (go_keep)
          (first | (go_at_call 81; refine (less_any _ x y).mono ?_; rintro e w5 ⟨rfl, q5⟩; have k0 := Fr.cellAt q5 (by simp) ca0; have k1 := Fr.cellAt q5 (by simp) ca1; have k2 := Fr.cellAt q5 (by simp) ca2; have l0 := Fr.cellAt q5 (by simp) cb0; have l1 := Fr.cellAt q5 (by simp) cb1; have l2 := Fr.cellAt q5 (by simp) cb2; have Q5 := Hd.mk q5; clear q5))
        clear ca0 ca1 ca2 cb0 cb1 cb2 k0 k1 k2 l0 l1 l2 n7 n9
        have HW5 := Hd.mk (HW.out.frame Q5.out.ofDrew (by simp))
        have HF5 := Hd.mk (HF.out.trans Q5.out.ofDrew (by simp))
        go_wp2
        go_roundg (gk - 1)
        case measure => omega
        case rel => exact ⟨h + 1, j, by go_num, rfl, by omega, by omega, by omega, by omega, ⟨fun q q1 q2 => by
          have := HS.out.key_le q1 (show q ≤ h by omega) (by omega)
          have := HK.out
          omega⟩, HB, HW5, HF5⟩
      · have hd : decide (cmpv (x.1 : Int) (y.1 : Int) < 0) = false := by rw [decide_eq_false_iff_not, cmpv_lt]; exact hk2
        have HK : Hd (ky (d a) ≤ ky (d h)) := ⟨by rw [← HX.out, ← HY.out]; unfold ky; omega⟩
        go_region_held3 (fun w' => w'.cell? ⟨g, h * 3, none⟩ = some (.int .i64 x.1) ∧ w'.cell? ⟨g, h * 3 + 1, none⟩ = some (.int .i64 x.2) ∧ w'.cell? ⟨g, h * 3 + 2, none⟩ = some (.slice none 0 0) ∧ w'.cell? ⟨g, a * 3, none⟩ = some (.int .i64 y.1) ∧ w'.cell? ⟨g, a * 3 + 1, none⟩ = some (.int .i64 y.2) ∧ w'.cell? ⟨g, a * 3 + 2, none⟩ = some (.slice none 0 0)) (go_keep)
          (first | (go_at_call 81; refine (less_any _ x y).mono ?_; rintro e w5 ⟨rfl, q5⟩; have k0 := Fr.cellAt q5 (by simp) ca0; have k1 := Fr.cellAt q5 (by simp) ca1; have k2 := Fr.cellAt q5 (by simp) ca2; have l0 := Fr.cellAt q5 (by simp) cb0; have l1 := Fr.cellAt q5 (by simp) cb1; have l2 := Fr.cellAt q5 (by simp) cb2; have Q5 := Hd.mk q5; clear q5))
        clear ca0 ca1 ca2 cb0 cb1 cb2 k0 k1 k2 l0 l1 l2 n7 n9
        have HW5 := Hd.mk (HW.out.frame Q5.out.ofDrew (by simp))
        have HF5 := Hd.mk (HF.out.trans Q5.out.ofDrew (by simp))
        go_wp2
        go_roundg (gk - 1)
        case measure => omega
        case rel => exact ⟨i, h, rfl, rfl, by omega, by omega, by omega, by omega, HA, ⟨fun q q1 q2 => by
          have := HS.out.key_le (show a + 1 ≤ h by omega) q1 q2
          have := HK.out
          omega⟩, HW5, HF5⟩
    · obtain rfl : i = j := by omega
      go_wp2
      go_loopg [13] (i - 1 - a) (fun kq kv wr2 => ∃ (k : Nat), kv = .int .i64 (k : Nat) ∧ a ≤ k ∧ k ≤ i - 1 ∧ i - 1 - k ≤ kq ∧ Hd (Ch n a b d (shl d a k)) ∧ Hd (Rw wr2 g n (shl d a k)) ∧ Hd (Fr w wr2 [g]))
      case atStart => exact ⟨a, rfl, by omega, by omega, by omega, ⟨by rw [shl_start]; exact Ch.refl _ _ _ _⟩, ⟨by rw [shl_start]; exact HW.out⟩, HF⟩
      case round =>
        obtain ⟨k, rfl, hak, hki, hkk, HC, HW2, HF2⟩ := hrel
        by_cases hlt2 : k < i - 1
        · have n0 : (k : Int) < (i : Int) - 1 := by omega
          go_upto_region 11 with (fail)
          have ca0 := HW2.out.cell (i := k) (j := 0) (by omega) (by decide)
          have ca1 := HW2.out.cell (i := k) (j := 1) (by omega) (by decide)
          have ca2 := HW2.out.cell (i := k) (j := 2) (by omega) (by decide)
          have cb0 := HW2.out.cell (i := k + 1) (j := 0) (by omega) (by decide)
          have cb1 := HW2.out.cell (i := k + 1) (j := 1) (by omega) (by decide)
          have cb2 := HW2.out.cell (i := k + 1) (j := 2) (by omega) (by decide)
          obtain ⟨x, hx⟩ : ∃ x, x = shl d a k k := ⟨_, rfl⟩
          obtain ⟨y, hy⟩ : ∃ y, y = shl d a k (k + 1) := ⟨_, rfl⟩
          rw [← hx] at ca0 ca1 ca2
          rw [← hy] at cb0 cb1 cb2
          have HX := Hd.mk hx
          have HY := Hd.mk hy
          clear hx hy
          simp only [lfc, List.getElem?_cons_zero, List.getElem?_cons_succ, Nat.add_zero] at ca0 ca1 ca2 cb0 cb1 cb2
          have fr : ∀ o, wr.frozen? ⟨g, o, none⟩ = false := HW2.out.free
          have n1 : ((k : Int) + 1).toNat = k + 1 := by omega
          have n3 : IntKind.i64.wrap ((k : Int) + 1) = (k : Int) + 1 := IntWalk.i64_in _ (by omega)
          have n5 : (0 : Int) ≤ (k : Int) + 1 := by omega
          have n7 : ((k : Int) + 1) < n := by omega
          have n9 : (k : Int) < n := by omega
          go_region
          have HP : Hd (Rw (six wr g k (k + 1) x y).drew g n (shl d a (k + 1))) := ⟨by rw [← shl_step d hak]; exact (HW2.out.swap (by omega) (by omega) (by omega) HX.out HY.out).drew⟩
          have HG : Hd (Fr w (six wr g k (k + 1) x y).drew [g]) := ⟨(Fr.six HF2.out (by simp)).drew⟩
          have HD : Hd (Ch n a b d (shl d a (k + 1))) := ⟨by rw [← shl_step d hak]; exact HC.out.trans (Ch.sw _ h2 (by omega) (by omega))⟩
          clear n1 n3 n5 n7 n9 ca0 ca1 ca2 cb0 cb1 cb2 fr
          unfold six at HP HG
          go_wp2
          go_roundg (gk - 1)
          case measure => omega
          case rel => exact ⟨k + 1, by go_num, by omega, by omega, by omega, HD, HP, HG⟩
        · obtain rfl : k = i - 1 := by omega
          have n0 : ¬ ((i - 1 : Nat) : Int) < (i : Int) - 1 := by omega
          go_wp2
          (try simp only [Exit.inBlock, Exit.then]); refine bodyPost_ret (results_none rfl _ _ _) rfl ?_
          exact ⟨rfl, ⟨_, HW2.out, HC.out, shl_srt HS.out HL.out hai hjb HA.out (fun q q1 q2 => Int.not_lt.2 (HB.out q q1 q2))⟩, HF2.out⟩
set_option maxHeartbeats 2000000 in
theorem merge_last (w : World) (g n c : Nat) (d : Nat → Nat × Nat) (a m b : Nat) (hb : b = m + 1) (hR : Rw w g n d) (hn : n ≤ 1099511627776) (hnc : n ≤ c) (h1 : a + 1 < m) (h2 : b ≤ n) (hs : Srt ky rk d a m) (hl : Lo rk d a m (m + 1)) :
    Calls Try.prog 98 #[.slice (some ⟨g, 0, none⟩) n c, .int .i64 (a : Nat), .int .i64 (m : Nat), .int .i64 (b : Nat), lfn] w fun e w' => e = .returned (.tuple #[]) ∧ (∃ d', Rw w' g n d' ∧ Ch n a b d d' ∧ Srt ky rk d' a b) ∧ Fr w w' [g] := by
  have HR := Hd.mk hR
  have HS := Hd.mk hs
  have HL := Hd.mk hl
  clear hR hs hl
  unfold lfn
  have e0 : (((m : Int) - (a : Int) == 1)) = false := by simp; omega
  have e3 : (((b : Int) - (m : Int) == 1)) = true := by simp; omega
  have e2 : a ≤ m ∧ m ≤ b ∧ m < n := by omega
  have HM := Hd.mk hb
  clear hb
  go_enter Try.func98, Try.ntmps98
  go_wp2
  go_loopg [14, 15] (m - a) (fun kq iv jv wr => ∃ (i j : Nat), iv = .int .i64 (i : Nat) ∧ jv = .int .i64 (j : Nat) ∧ a ≤ i ∧ i ≤ j ∧ j ≤ m ∧ j - i ≤ kq ∧ Hd (∀ q, a ≤ q → q < i → ky (d q) ≤ ky (d m)) ∧ Hd (∀ q, j ≤ q → q < m → ky (d m) < ky (d q)) ∧ Hd (Rw wr g n d) ∧ Hd (Fr w wr [g]))
  case atStart => exact ⟨a, m, rfl, rfl, by omega, by omega, by omega, by omega, ⟨fun q q1 q2 => by omega⟩, ⟨fun q q1 q2 => by omega⟩, HR, ⟨Fr.refl _ _⟩⟩
  case round =>
    obtain ⟨i, j, rfl, rfl, hai, hij, hjb, hk, HA, HB, HW, HF⟩ := hrel
    by_cases hlt : i < j
    · obtain ⟨h, hh⟩ : ∃ h, h = (i + j) / 2 := ⟨_, rfl⟩
      go_upto_region 17 with (fail)
      rw [show ((i : Int) + (j : Int)) / 2 = ((h : Nat) : Int) from by omega]
      have ca0 := HW.out.cell (i := m) (j := 0) (by omega) (by decide)
      have ca1 := HW.out.cell (i := m) (j := 1) (by omega) (by decide)
      have ca2 := HW.out.cell (i := m) (j := 2) (by omega) (by decide)
      have cb0 := HW.out.cell (i := h) (j := 0) (by omega) (by decide)
      have cb1 := HW.out.cell (i := h) (j := 1) (by omega) (by decide)
      have cb2 := HW.out.cell (i := h) (j := 2) (by omega) (by decide)
      obtain ⟨x, hx⟩ : ∃ x, x = d m := ⟨_, rfl⟩
      obtain ⟨y, hy⟩ : ∃ y, y = d h := ⟨_, rfl⟩
      rw [← hx] at ca0 ca1 ca2
      rw [← hy] at cb0 cb1 cb2
      have HX := Hd.mk hx
      have HY := Hd.mk hy
      have HH := Hd.mk hh
      have hhb : i ≤ h ∧ h < j := by omega
      clear hx hy hh
      simp only [lfc, List.getElem?_cons_zero, List.getElem?_cons_succ, Nat.add_zero] at ca0 ca1 ca2 cb0 cb1 cb2
      have n7 : (h : Int) < n := by omega
      have n9 : (m : Int) < n := by omega
      by_cases hk2 : x.1 < y.1
      · have hd : decide (cmpv (x.1 : Int) (y.1 : Int) < 0) = true := by rw [decide_eq_true_eq, cmpv_lt]; exact hk2
        have HK : Hd (ky (d m) < ky (d h)) := ⟨by rw [← HX.out, ← HY.out]; unfold ky; omega⟩
        go_region_held3 (fun w' => w'.cell? ⟨g, m * 3, none⟩ = some (.int .i64 x.1) ∧ w'.cell? ⟨g, m * 3 + 1, none⟩ = some (.int .i64 x.2) ∧ w'.cell? ⟨g, m * 3 + 2, none⟩ = some (.slice none 0 0) ∧ w'.cell? ⟨g, h * 3, none⟩ = some (.int .i64 y.1) ∧ w'.cell? ⟨g, h * 3 + 1, none⟩ = some (.int .i64 y.2) ∧ w'.cell? ⟨g, h * 3 + 2, none⟩ = some (.slice none 0 0)) (go_keep)
          (first | (go_at_call 81; refine (less_any _ x y).mono ?_; rintro e w5 ⟨rfl, q5⟩; have k0 := Fr.cellAt q5 (by simp) ca0; have k1 := Fr.cellAt q5 (by simp) ca1; have k2 := Fr.cellAt q5 (by simp) ca2; have l0 := Fr.cellAt q5 (by simp) cb0; have l1 := Fr.cellAt q5 (by simp) cb1; have l2 := Fr.cellAt q5 (by simp) cb2; have Q5 := Hd.mk q5; clear q5))
        clear ca0 ca1 ca2 cb0 cb1 cb2 k0 k1 k2 l0 l1 l2 n7 n9
        have HW5 := Hd.mk (HW.out.frame Q5.out.ofDrew (by simp))
        have HF5 := Hd.mk (HF.out.trans Q5.out.ofDrew (by simp))
        go_wp2
        go_roundg (gk - 1)
        case measure => omega
        case rel => exact ⟨i, h, rfl, rfl, by omega, by omega, by omega, by omega, HA, ⟨fun q q1 q2 => by
          have := HS.out.key_le (show a ≤ h by omega) q1 q2
          have := HK.out
          omega⟩, HW5, HF5⟩
      · have hd : decide (cmpv (x.1 : Int) (y.1 : Int) < 0) = false := by rw [decide_eq_false_iff_not, cmpv_lt]; exact hk2
        have HK : Hd (ky (d h) ≤ ky (d m)) := ⟨by rw [← HX.out, ← HY.out]; unfold ky; omega⟩
        go_region_held3 (fun w' => w'.cell? ⟨g, m * 3, none⟩ = some (.int .i64 x.1) ∧ w'.cell? ⟨g, m * 3 + 1, none⟩ = some (.int .i64 x.2) ∧ w'.cell? ⟨g, m * 3 + 2, none⟩ = some (.slice none 0 0) ∧ w'.cell? ⟨g, h * 3, none⟩ = some (.int .i64 y.1) ∧ w'.cell? ⟨g, h * 3 + 1, none⟩ = some (.int .i64 y.2) ∧ w'.cell? ⟨g, h * 3 + 2, none⟩ = some (.slice none 0 0)) (go_keep)
          (first | (go_at_call 81; refine (less_any _ x y).mono ?_; rintro e w5 ⟨rfl, q5⟩; have k0 := Fr.cellAt q5 (by simp) ca0; have k1 := Fr.cellAt q5 (by simp) ca1; have k2 := Fr.cellAt q5 (by simp) ca2; have l0 := Fr.cellAt q5 (by simp) cb0; have l1 := Fr.cellAt q5 (by simp) cb1; have l2 := Fr.cellAt q5 (by simp) cb2; have Q5 := Hd.mk q5; clear q5))
        clear ca0 ca1 ca2 cb0 cb1 cb2 k0 k1 k2 l0 l1 l2 n7 n9
        have HW5 := Hd.mk (HW.out.frame Q5.out.ofDrew (by simp))
        have HF5 := Hd.mk (HF.out.trans Q5.out.ofDrew (by simp))
        go_wp2
        go_roundg (gk - 1)
        case measure => omega
        case rel => exact ⟨h + 1, j, by go_num, rfl, by omega, by omega, by omega, by omega, ⟨fun q q1 q2 => by
          have := HS.out.key_le q1 (show q ≤ h by omega) (by omega)
          have := HK.out
          omega⟩, HB, HW5, HF5⟩
    · obtain rfl : i = j := by omega
      go_wp2
      go_loopg [17] (m - i) (fun kq kv wr2 => ∃ (k : Nat), kv = .int .i64 (k : Nat) ∧ i ≤ k ∧ k ≤ m ∧ k - i ≤ kq ∧ Hd (Ch n a b d (shr d m k)) ∧ Hd (Rw wr2 g n (shr d m k)) ∧ Hd (Fr w wr2 [g]))
      case atStart => exact ⟨m, rfl, by omega, by omega, by omega, ⟨by rw [shr_start]; exact Ch.refl _ _ _ _⟩, ⟨by rw [shr_start]; exact HW.out⟩, HF⟩
      case round =>
        obtain ⟨k, rfl, hak, hki, hkk, HC, HW2, HF2⟩ := hrel
        by_cases hlt2 : i < k
        · go_upto_region 23 with (fail)
          have ca0 := HW2.out.cell (i := k) (j := 0) (by omega) (by decide)
          have ca1 := HW2.out.cell (i := k) (j := 1) (by omega) (by decide)
          have ca2 := HW2.out.cell (i := k) (j := 2) (by omega) (by decide)
          have cb0 := HW2.out.cell (i := k - 1) (j := 0) (by omega) (by decide)
          have cb1 := HW2.out.cell (i := k - 1) (j := 1) (by omega) (by decide)
          have cb2 := HW2.out.cell (i := k - 1) (j := 2) (by omega) (by decide)
          obtain ⟨x, hx⟩ : ∃ x, x = shr d m k k := ⟨_, rfl⟩
          obtain ⟨y, hy⟩ : ∃ y, y = shr d m k (k - 1) := ⟨_, rfl⟩
          rw [← hx] at ca0 ca1 ca2
          rw [← hy] at cb0 cb1 cb2
          have HX := Hd.mk hx
          have HY := Hd.mk hy
          clear hx hy
          simp only [lfc, List.getElem?_cons_zero, List.getElem?_cons_succ, Nat.add_zero] at ca0 ca1 ca2 cb0 cb1 cb2
          have fr : ∀ o, wr.frozen? ⟨g, o, none⟩ = false := HW2.out.free
          have n0 : (1 : Int) ≤ (k : Int) := by omega
          have n1 : ((k : Int) - 1).toNat = k - 1 := by omega
          have n3 : IntKind.i64.wrap ((k : Int) - 1) = (k : Int) - 1 := IntWalk.i64_in _ (by omega)
          have n5 : (0 : Int) ≤ (k : Int) - 1 := by omega
          have n7 : ((k : Int) - 1) < n := by omega
          have n9 : (k : Int) < n := by omega
          go_region
          have HP : Hd (Rw (six wr g k (k - 1) x y).drew g n (shr d m (k - 1))) := ⟨by rw [← shr_step d hki (by omega)]; exact (HW2.out.swap (by omega) (by omega) (by omega) HX.out HY.out).drew⟩
          have HG : Hd (Fr w (six wr g k (k - 1) x y).drew [g]) := ⟨(Fr.six HF2.out (by simp)).drew⟩
          have HD : Hd (Ch n a b d (shr d m (k - 1))) := ⟨by have := HM.out; rw [← shr_step d hki (by omega)]; exact HC.out.trans (Ch.sw _ h2 (by omega) (by omega))⟩
          clear n1 n3 n5 n7 n9 ca0 ca1 ca2 cb0 cb1 cb2 fr
          unfold six at HP HG
          go_wp2
          go_roundg (gk - 1)
          case measure => omega
          case rel => exact ⟨k - 1, by go_num, by omega, by omega, by omega, HD, HP, HG⟩
        · obtain rfl : i = k := by omega
          go_wp2
          (try simp only [Exit.inBlock, Exit.then]); refine bodyPost_ret (results_none rfl _ _ _) rfl ?_
          exact ⟨rfl, ⟨_, HW2.out, HC.out, by rw [HM.out]; exact shr_srt HS.out HL.out hai hjb (fun q q1 q2 => Int.not_lt.2 (HA.out q q1 q2)) HB.out⟩, HF2.out⟩
end Go.Proofs.Ytkdgfioigkijgaa.Sort
/- Stable sorting of leaves (chapter 04): two sorted neighbours merged. Conditions: at most 2^40 items. -/
set_option linter.unusedVariables false
set_option linter.unusedSimpArgs false
set_option maxRecDepth 100000
namespace Go.Proofs.Ytkdgfioigkijgaa.Sort
open Go.RowKit Go.Proofs.Ytkdgfioigkijgaa.Lib Go.Proofs.Ytkdgfioigkijgaa.Ints Go.Proofs.Ytkdgfioigkijgaa.Sorts

/-- what a merge does -/
def Merged (w : World) (g n : Nat) (d : Nat → Nat × Nat) (a b : Nat) (e : Ending) (w' : World) : Prop :=
  e = .returned (.tuple #[]) ∧ (∃ d', Rw w' g n d' ∧ Ch n a b d d' ∧ Srt ky rk d' a b) ∧ Fr w w' [g]
set_option maxHeartbeats 4000000 in
theorem merge_any (g n c : Nat) (hn : n ≤ 1099511627776) (hnc : n ≤ c) : ∀ (L : Nat) (w : World) (d : Nat → Nat × Nat) (a m b : Nat), b - a ≤ L → Rw w g n d → a < m → m < b → b ≤ n → Srt ky rk d a m → Srt ky rk d m b → Lo rk d a m b →
    Calls Try.prog 98 #[.slice (some ⟨g, 0, none⟩) n c, .int .i64 (a : Nat), .int .i64 (m : Nat), .int .i64 (b : Nat), lfn] w (Merged w g n d a b) := by
  intro L
  induction L with
  | zero => intro w d a m b h0 hR h1 h2; omega
  | succ L ih =>
    intro w d a m b h0 hR h1 h2 h3 hs1 hs2 hlo
    by_cases hm : m = a + 1
    · subst hm
      exact merge_first w g n c d a (a + 1) b rfl hR hn hnc h2 h3 hs2 hlo
    by_cases hb : b = m + 1
    · subst hb
      exact merge_last w g n c d a m (m + 1) rfl hR hn hnc (by omega) h3 hs1 hlo
    have HIH := Hd.mk ih
    have HR := Hd.mk hR
    have HS1 := Hd.mk hs1
    have HS2 := Hd.mk hs2
    have HL := Hd.mk hlo
    clear ih hR hs1 hs2 hlo
    obtain ⟨mid, hmid⟩ : ∃ mid, mid = (a + b) / 2 := ⟨_, rfl⟩
    have hmb : a < mid ∧ mid < b := by omega
    have e0 : (((m : Int) - (a : Int) == 1)) = false := by simp; omega
    have e3 : (((b : Int) - (m : Int) == 1)) = false := by simp; omega
    have HMID := Hd.mk hmid
    unfold lfn
    go_enter Try.func98, Try.ntmps98
    go_upto_if 140 with (fail)
    rw [show ((a : Int) + (b : Int)) / 2 = ((mid : Nat) : Int) from by omega]
    clear hmid
    obtain ⟨lo, hlo⟩ : ∃ lo, lo = lo0 a m b := ⟨_, rfl⟩
    obtain ⟨hi, hhi⟩ : ∃ hi, hi = hi0 a m b := ⟨_, rfl⟩
    have HLO := Hd.mk hlo
    have HHI := Hd.mk hhi
    have hends := ends0 h1 h2
    rw [← hlo, ← hhi, ← HMID.out] at hends
    obtain ⟨p1, p2, p3, p4⟩ := hends
    have HP4 := Hd.mk p4
    clear p4 hlo hhi
    go_cut [20, 21] from 138 to 146 (fun s r wc => s = .int .i64 (lo : Nat) ∧ r = .int .i64 (hi : Nat) ∧ w = wc)
    case first =>
      by_cases hmm : mid < m
      · have q1 : lo = mid + m - b := by rw [HLO.out]; unfold lo0; rw [← HMID.out, if_pos hmm]
        have q2 : hi = mid := by rw [HHI.out]; unfold hi0; rw [← HMID.out, if_pos hmm]
        have Q1 := Hd.mk q1
        have Q2 := Hd.mk q2
        clear q1 q2
        go_wp2
        go_meet
        case rel => have := Q1.out; have := Q2.out; have := HMID.out; exact ⟨by congr 1; omega, by congr 1; omega, rfl⟩
      · have q1 : lo = a := by rw [HLO.out]; unfold lo0; rw [← HMID.out, if_neg hmm]
        have q2 : hi = m := by rw [HHI.out]; unfold hi0; rw [← HMID.out, if_neg hmm]
        have Q1 := Hd.mk q1
        have Q2 := Hd.mk q2
        clear q1 q2
        go_wp2
        go_meet
        case rel => have := Q1.out; have := Q2.out; have := HMID.out; exact ⟨by congr 1; omega, by congr 1; omega, rfl⟩
    case rest =>
    obtain ⟨rfl, rfl, rfl⟩ := hcut
    go_wp2
    go_loopg [20, 21] (hi - lo) (fun kq sv rv wr => ∃ (s r : Nat), sv = .int .i64 (s : Nat) ∧ rv = .int .i64 (r : Nat) ∧ lo ≤ s ∧ s ≤ r ∧ r ≤ hi ∧ r - s ≤ kq ∧ Hd (Seek ky d (mid + m - 1) lo hi s r) ∧ Hd (Rw wr g n d) ∧ Hd (Fr w wr [g]))
    case atStart => exact ⟨lo, hi, rfl, rfl, by omega, by omega, by omega, by omega, ⟨Seek.start d p2⟩, HR, ⟨Fr.refl _ _⟩⟩
    case round =>
      obtain ⟨s, r, rfl, rfl, hs1, hs2, hs3, hk, HSK, HW, HF⟩ := hrel
      by_cases hlt : s < r
      · obtain ⟨h, hh⟩ : ∃ h, h = (s + r) / 2 := ⟨_, rfl⟩
        go_upto_region 35 with (fail)
        rw [show ((s : Int) + (r : Int)) / 2 = ((h : Nat) : Int) from by omega]
        have hhb : s ≤ h ∧ h < r := by omega
        have h4 := HP4.out h (by omega) (by omega)
        obtain ⟨p, hp⟩ : ∃ p, p = mid + m - 1 - h := ⟨_, rfl⟩
        have HPP := Hd.mk hp
        rw [← hp] at h4
        have ca0 := HW.out.cell (i := p) (j := 0) (by omega) (by decide)
        have ca1 := HW.out.cell (i := p) (j := 1) (by omega) (by decide)
        have ca2 := HW.out.cell (i := p) (j := 2) (by omega) (by decide)
        have cb0 := HW.out.cell (i := h) (j := 0) (by omega) (by decide)
        have cb1 := HW.out.cell (i := h) (j := 1) (by omega) (by decide)
        have cb2 := HW.out.cell (i := h) (j := 2) (by omega) (by decide)
        obtain ⟨x, hx⟩ : ∃ x, x = d p := ⟨_, rfl⟩
        obtain ⟨y, hy⟩ : ∃ y, y = d h := ⟨_, rfl⟩
        rw [← hx] at ca0 ca1 ca2
        rw [← hy] at cb0 cb1 cb2
        have HX := Hd.mk hx
        have HY := Hd.mk hy
        clear hx hy hh
        simp only [lfc, List.getElem?_cons_zero, List.getElem?_cons_succ, Nat.add_zero] at ca0 ca1 ca2 cb0 cb1 cb2
        have n1 : ((mid : Int) + (m : Int) - 1 - (h : Int)).toNat = p := by omega
        have n3 : IntKind.i64.wrap ((mid : Int) + (m : Int) - 1 - (h : Int)) = (mid : Int) + (m : Int) - 1 - (h : Int) := IntWalk.i64_in _ (by omega)
        have n5 : (0 : Int) ≤ (mid : Int) + (m : Int) - 1 - (h : Int) := by omega
        have n7 : ((mid : Int) + (m : Int) - 1 - (h : Int)) < n := by omega
        have n9 : (h : Int) < n := by omega
        have n0 : (h : Int) ≤ (mid : Int) + (m : Int) - 1 := by omega
        clear hp
        by_cases hk2 : x.1 < y.1
        · have hd : decide (cmpv (x.1 : Int) (y.1 : Int) < 0) = true := by rw [decide_eq_true_eq, cmpv_lt]; exact hk2
          have HK : Hd (ky (d p) < ky (d h)) := ⟨by rw [← HX.out, ← HY.out]; unfold ky; omega⟩
          go_region_held3 (fun w' => w'.cell? ⟨g, p * 3, none⟩ = some (.int .i64 x.1) ∧ w'.cell? ⟨g, p * 3 + 1, none⟩ = some (.int .i64 x.2) ∧ w'.cell? ⟨g, p * 3 + 2, none⟩ = some (.slice none 0 0) ∧ w'.cell? ⟨g, h * 3, none⟩ = some (.int .i64 y.1) ∧ w'.cell? ⟨g, h * 3 + 1, none⟩ = some (.int .i64 y.2) ∧ w'.cell? ⟨g, h * 3 + 2, none⟩ = some (.slice none 0 0)) (go_keep)
            (first | (go_at_call 81; refine (less_any _ x y).mono ?_; rintro e w5 ⟨rfl, q5⟩; have k0 := Fr.cellAt q5 (by simp) ca0; have k1 := Fr.cellAt q5 (by simp) ca1; have k2 := Fr.cellAt q5 (by simp) ca2; have l0 := Fr.cellAt q5 (by simp) cb0; have l1 := Fr.cellAt q5 (by simp) cb1; have l2 := Fr.cellAt q5 (by simp) cb2; have Q5 := Hd.mk q5; clear q5))
          clear ca0 ca1 ca2 cb0 cb1 cb2 k0 k1 k2 l0 l1 l2 n0 n1 n3 n5 n7 n9
          have HW5 := Hd.mk (HW.out.frame Q5.out.ofDrew (by simp))
          have HF5 := Hd.mk (HF.out.trans Q5.out.ofDrew (by simp))
          go_wp2
          go_roundg (gk - 1)
          case measure => go_light; omega
          case rel => exact ⟨s, h, rfl, rfl, by omega, by omega, by omega, by omega, ⟨HSK.out.down HS1.out HS2.out p1 p3 HP4.out hhb (by rw [← HPP.out]; exact HK.out)⟩, HW5, HF5⟩
        · have hd : decide (cmpv (x.1 : Int) (y.1 : Int) < 0) = false := by rw [decide_eq_false_iff_not, cmpv_lt]; exact hk2
          have HK : Hd (ky (d h) ≤ ky (d p)) := ⟨by rw [← HX.out, ← HY.out]; unfold ky; omega⟩
          go_region_held3 (fun w' => w'.cell? ⟨g, p * 3, none⟩ = some (.int .i64 x.1) ∧ w'.cell? ⟨g, p * 3 + 1, none⟩ = some (.int .i64 x.2) ∧ w'.cell? ⟨g, p * 3 + 2, none⟩ = some (.slice none 0 0) ∧ w'.cell? ⟨g, h * 3, none⟩ = some (.int .i64 y.1) ∧ w'.cell? ⟨g, h * 3 + 1, none⟩ = some (.int .i64 y.2) ∧ w'.cell? ⟨g, h * 3 + 2, none⟩ = some (.slice none 0 0)) (go_keep)
            (first | (go_at_call 81; refine (less_any _ x y).mono ?_; rintro e w5 ⟨rfl, q5⟩; have k0 := Fr.cellAt q5 (by simp) ca0; have k1 := Fr.cellAt q5 (by simp) ca1; have k2 := Fr.cellAt q5 (by simp) ca2; have l0 := Fr.cellAt q5 (by simp) cb0; have l1 := Fr.cellAt q5 (by simp) cb1; have l2 := Fr.cellAt q5 (by simp) cb2; have Q5 := Hd.mk q5; clear q5))
          clear ca0 ca1 ca2 cb0 cb1 cb2 k0 k1 k2 l0 l1 l2 n0 n1 n3 n5 n7 n9
          have HW5 := Hd.mk (HW.out.frame Q5.out.ofDrew (by simp))
          have HF5 := Hd.mk (HF.out.trans Q5.out.ofDrew (by simp))
          go_wp2
          go_roundg (gk - 1)
          case measure => go_light; omega
          case rel => exact ⟨h + 1, r, by go_num, rfl, by omega, by omega, by omega, by omega, ⟨HSK.out.up HS1.out HS2.out p1 p3 HP4.out hhb (by rw [← HPP.out]; exact Int.not_lt.2 HK.out)⟩, HW5, HF5⟩
      · obtain rfl : s = r := by omega
        have hcp : Cutp ky d a m b s := Seek.cut h1 h2 HS1.out HS2.out (by rw [← HLO.out, ← HHI.out, ← HMID.out]; exact HSK.out)
        have hbd := hcp.bd
        have hhv := hcp.halves HS1.out HS2.out HL.out
        rw [← HMID.out] at hbd hhv
        obtain ⟨en, hen⟩ : ∃ en, en = mid + m - s := ⟨_, rfl⟩
        rw [← hen] at hbd hhv
        have HHV := Hd.mk hhv
        have hev : (mid : Int) + (m : Int) - (s : Int) = ((en : Nat) : Int) := by omega
        obtain ⟨b1, b2, b3, b4, b5⟩ := hbd
        have b6 : s ≤ mid := by omega
        have b7 : mid ≤ en := by omega
        clear hcp hhv hen
        go_upto_region 39 with (fail)
        go_cut [185] from 178 to 185 (fun sv wc => sv = .bool (decide (s < m ∧ m < en)) ∧ wr = wc)
        case first =>
          by_cases q1 : s < m
          · by_cases q2 : m < en
            · have q3 : Hd (decide (s < m ∧ m < en) = true) := ⟨decide_eq_true ⟨q1, q2⟩⟩
              go_wp2
              go_meet
              case rel => exact ⟨by rw [q3.out], rfl⟩
            · have q3 : Hd (decide (s < m ∧ m < en) = false) := ⟨decide_eq_false fun h => q2 h.2⟩
              go_wp2
              go_meet
              case rel => exact ⟨by rw [q3.out], rfl⟩
          · have q3 : Hd (decide (s < m ∧ m < en) = false) := ⟨decide_eq_false fun h => q1 h.1⟩
            go_wp2
            go_meet
            case rel => exact ⟨by rw [q3.out], rfl⟩
        case rest =>
        obtain ⟨rfl, rfl⟩ := hcut
        go_upto_if 185 with (fail)
        clear hev
        go_cut [] from 178 to 191 (fun wc => Hd (Ch n s en d (rot d s m en)) ∧ Hd (Rw wc g n (rot d s m en)) ∧ Hd (Fr w wc [g]))
        case first =>
          by_cases q1 : s < m ∧ m < en
          · have q3 : decide (s < m ∧ m < en) = true := decide_eq_true q1
            go_wp2_with (fail)
            refine (rotate_any wr g n c d s m en _ HW.out hn hnc q1.1 q1.2 (by omega)).mono ?_
            rintro e w1 ⟨rfl, r1, r3, r2⟩
            have R1 := Hd.mk r1
            have R3 := Hd.mk r3
            have R2 := Hd.mk (HF.out.trans r2 (by simp))
            clear r1 r2 r3
            go_wp2
            go_meet
            case rel => exact ⟨R3, R1, R2⟩
          · have q3 : decide (s < m ∧ m < en) = false := decide_eq_false q1
            go_wp2
            go_meet
            case rel => rw [rot_none d b2 b4 q1]; exact ⟨⟨Ch.refl _ _ _ _⟩, HW, HF⟩
        case rest =>
        obtain ⟨HC1, HW1, HF1⟩ := hcut
        obtain ⟨w1, rfl⟩ : ∃ w1, w1 = wc := ⟨_, rfl⟩
        obtain ⟨d1, hd1⟩ : ∃ d1, d1 = rot d s m en := ⟨_, rfl⟩
        rw [← hd1] at HC1 HW1 HHV
        clear hd1
        go_upto_region 41 with (fail)
        go_cut [199] from 192 to 199 (fun sv wc => sv = .bool (decide (a < s ∧ s < mid)) ∧ w1 = wc)
        case first =>
          by_cases q1 : a < s
          · by_cases q2 : s < mid
            · have q3 : Hd (decide (a < s ∧ s < mid) = true) := ⟨decide_eq_true ⟨q1, q2⟩⟩
              go_wp2
              go_meet
              case rel => exact ⟨by rw [q3.out], rfl⟩
            · have q3 : Hd (decide (a < s ∧ s < mid) = false) := ⟨decide_eq_false fun h => q2 h.2⟩
              go_wp2
              go_meet
              case rel => exact ⟨by rw [q3.out], rfl⟩
          · have q3 : Hd (decide (a < s ∧ s < mid) = false) := ⟨decide_eq_false fun h => q1 h.1⟩
            go_wp2
            go_meet
            case rel => exact ⟨by rw [q3.out], rfl⟩
        case rest =>
        obtain ⟨rfl, rfl⟩ := hcut
        go_upto_if 199 with (fail)
        go_cut [] from 192 to 205 (fun wc => ∃ d2, Hd (Ch n a mid d1 d2) ∧ Hd (Srt ky rk d2 a mid) ∧ Hd (Rw wc g n d2) ∧ Hd (Fr w wc [g]))
        case first =>
          by_cases q1 : a < s ∧ s < mid
          · have q3 : decide (a < s ∧ s < mid) = true := decide_eq_true q1
            go_wp2_with (fail)
            refine (HIH.out w1 d1 a s mid (by omega) HW1.out q1.1 q1.2 (by omega) HHV.out.s1 HHV.out.s2 HHV.out.l1).mono ?_
            rintro e w2 ⟨rfl, ⟨d2, r1, r2, r3⟩, r4⟩
            have R1 := Hd.mk r1
            have R2 := Hd.mk r2
            have R3 := Hd.mk r3
            have R4 := Hd.mk (HF1.out.trans r4 (by simp))
            clear r1 r2 r3 r4
            go_wp2
            go_meet
            case rel => exact ⟨d2, R2, R3, R1, R4⟩
          · have q3 : decide (a < s ∧ s < mid) = false := decide_eq_false q1
            have q4 : Hd (Srt ky rk d1 a mid) := ⟨by
              rcases (show s = a ∨ s = mid by omega) with q5 | q5
              · have := HHV.out.s2; rw [q5] at this; exact this
              · have := HHV.out.s1; rw [q5] at this; exact this⟩
            go_wp2
            go_meet
            case rel => exact ⟨d1, ⟨Ch.refl _ _ _ _⟩, q4, HW1, HF1⟩
        case rest =>
        obtain ⟨d2, HC2, HT2, HW2, HF2⟩ := hcut
        obtain ⟨w2, rfl⟩ : ∃ w2, w2 = wc := ⟨_, rfl⟩
        have HE3 : Hd (Srt ky rk d2 mid en ∧ Srt ky rk d2 en b ∧ Lo rk d2 mid en b) := ⟨by
          have o : ∀ k, mid ≤ k → d2 k = d1 k := fun k hk => HC2.out.out k (by omega)
          refine ⟨fun i j a1 a2 a3 => ?_, fun i j a1 a2 a3 => ?_, fun i j a1 a2 a3 a4 => ?_⟩
          · rw [o i (by omega), o j (by omega)]; exact HHV.out.s3 i j a1 a2 a3
          · rw [o i (by omega), o j (by omega)]; exact HHV.out.s4 i j a1 a2 a3
          · rw [o i (by omega), o j (by omega)]; exact HHV.out.l2 i j a1 a2 a3 a4⟩
        go_upto_region 43 with (fail)
        go_cut [213] from 206 to 213 (fun sv wc => sv = .bool (decide (mid < en ∧ en < b)) ∧ w2 = wc)
        case first =>
          by_cases q1 : mid < en
          · by_cases q2 : en < b
            · have q3 : Hd (decide (mid < en ∧ en < b) = true) := ⟨decide_eq_true ⟨q1, q2⟩⟩
              go_wp2
              go_meet
              case rel => exact ⟨by rw [q3.out], rfl⟩
            · have q3 : Hd (decide (mid < en ∧ en < b) = false) := ⟨decide_eq_false fun h => q2 h.2⟩
              go_wp2
              go_meet
              case rel => exact ⟨by rw [q3.out], rfl⟩
          · have q3 : Hd (decide (mid < en ∧ en < b) = false) := ⟨decide_eq_false fun h => q1 h.1⟩
            go_wp2
            go_meet
            case rel => exact ⟨by rw [q3.out], rfl⟩
        case rest =>
        obtain ⟨rfl, rfl⟩ := hcut
        go_upto_if 213 with (fail)
        by_cases q1 : mid < en ∧ en < b
        · have q3 : decide (mid < en ∧ en < b) = true := decide_eq_true q1
          go_wp2_with (fail)
          refine (HIH.out w2 d2 mid en b (by omega) HW2.out q1.1 q1.2 (by omega) HE3.out.1 HE3.out.2.1 HE3.out.2.2).mono ?_
          rintro e w3 ⟨rfl, ⟨d3, r1, r2, r3⟩, r4⟩
          have R1 := Hd.mk r1
          have R2 := Hd.mk r2
          have R3 := Hd.mk r3
          have R4 := Hd.mk (HF2.out.trans r4 (by simp))
          clear r1 r2 r3 r4
          go_wp2
          go_end0
          have hj := HHV.out.join (n := n) (by omega) (by omega) HC2.out HT2.out R2.out R3.out
          exact ⟨rfl, ⟨d3, R1.out, (HC1.out.wide b1 b5).trans hj.1, hj.2⟩, R4.out⟩
        · have q3 : decide (mid < en ∧ en < b) = false := decide_eq_false q1
          have q4 : Hd (Srt ky rk d2 mid b) := ⟨by
            rcases (show en = mid ∨ en = b by omega) with q5 | q5
            · have := HE3.out.2.1; rw [q5] at this; exact this
            · have := HE3.out.1; rw [q5] at this; exact this⟩
          go_wp2
          go_end0
          have hj := HHV.out.join (n := n) (by omega) (by omega) HC2.out HT2.out (Ch.refl _ _ _ _) q4.out
          exact ⟨rfl, ⟨d2, HW2.out, (HC1.out.wide b1 b5).trans hj.1, hj.2⟩, HF2.out⟩
end Go.Proofs.Ytkdgfioigkijgaa.Sort
/- Stable sorting of leaves (chapter 04): slices.SortStableFunc. Conditions: at most 2^40 items. -/
set_option linter.unusedVariables false
set_option linter.unusedSimpArgs false
set_option maxRecDepth 100000
namespace Go.Proofs.Ytkdgfioigkijgaa.Sort
open Go.RowKit Go.Proofs.Ytkdgfioigkijgaa.Lib Go.Proofs.Ytkdgfioigkijgaa.Ints Go.Proofs.Ytkdgfioigkijgaa.Sorts

set_option maxHeartbeats 4000000 in
theorem stable_any (w : World) (g n c : Nat) (d : Nat → Nat × Nat) (hR : Rw w g n d) (hn : n ≤ 1099511627776) (hnc : n ≤ c) (hinc : ∀ i j, i < j → j < n → rk (d i) < rk (d j)) :
    Calls Try.prog 90 #[.slice (some ⟨g, 0, none⟩) n c, .int .i64 (n : Nat), lfn] w fun e w' => e = .returned (.tuple #[]) ∧ (∃ d', Rw w' g n d' ∧ (lst n d').Perm (lst n d) ∧ Srt ky rk d' 0 n) ∧ Fr w w' [g] := by
  have HR := Hd.mk hR
  have HI := Hd.mk hinc
  clear hR hinc
  unfold lfn
  go_enter Try.func90, Try.ntmps90
  go_wp2
  go_loopg [7, 8] n (fun kq av bv wr => ∃ (k : Nat) (d' : Nat → Nat × Nat), av = .int .i64 ((k * 20 : Nat) : Int) ∧ bv = .int .i64 ((k * 20 + 20 : Nat) : Int) ∧ k * 20 ≤ n ∧ n - k * 20 ≤ kq ∧ Hd (Mix ky rk n 1 20 (k * 20) d d') ∧ Hd (Rw wr g n d') ∧ Hd (Fr w wr [g]))
  case atStart => exact ⟨0, d, rfl, rfl, by omega, by omega, ⟨by simpa using Mix.start n 20 d⟩, HR, ⟨Fr.refl _ _⟩⟩
  case round =>
    obtain ⟨k, d1, rfl, rfl, hka, hkk, HM, HW, HF⟩ := hrel
    have HINC : Hd (∀ p q, k * 20 ≤ p → p < q → q < n → rk (d1 p) < rk (d1 q)) := ⟨fun p q e1 e2 e3 => by
      obtain ⟨x, x1, x2, x3⟩ := HM.out.ow2 p (by omega) e1
      obtain ⟨y, y1, y2, y3⟩ := HM.out.ow2 q e3 (by omega)
      rw [x3, y3]
      simp only [Nat.div_one] at x2 y2
      exact HI.out x y (by omega) y1⟩
    obtain ⟨a, ha⟩ : ∃ a, a = k * 20 := ⟨_, rfl⟩
    obtain ⟨b, hb⟩ : ∃ b, b = k * 20 + 20 := ⟨_, rfl⟩
    have HA := Hd.mk ha
    have HB := Hd.mk hb
    have hab : b ≤ a + 20 ∧ a + 20 ≤ b := by omega
    rw [← hb, ← ha]
    rw [← ha] at hka hkk HM HINC
    clear ha hb
    by_cases hlt : b ≤ n
    · go_wp2_with (fail)
      refine (insertion_any wr g n c d1 a b HW.out hn hnc (by omega) hlt (fun p q e1 e2 e3 => HINC.out p q e1 e2 (by omega))).mono ?_
      rintro e w1 ⟨rfl, ⟨d2, r1, r2, r3⟩, r4⟩
      have R1 := Hd.mk r1
      have R4 := Hd.mk (HF.out.trans r4 (by simp))
      have R2 : Hd (Mix ky rk n 1 20 b d d2) := ⟨by
        have := HM.out
        rw [HA.out] at this r2 r3
        exact this.step (by omega) (fun i j e => by simp only [Nat.div_one] at e; rw [e]) r2 r3 hlt (by rw [HB.out]; omega) (by rw [HB.out]; omega) (.inl (by rw [HB.out]))⟩
      clear r1 r2 r3 r4
      go_wp2
      go_roundg (gk - 1)
      case measure => go_light; omega
      case rel =>
        go_light
        have h1 := HA.out
        have h2 := HB.out
        have h3 : b = (k + 1) * 20 := by omega
        exact ⟨k + 1, d2, by rw [← h3], by first | rfl | (congr 1; omega), by omega, by omega, by rw [← h3]; exact R2, R1, R4⟩
    · go_wp2_with (fail)
      refine (insertion_any wr g n c d1 a n HW.out hn hnc (by omega) (Nat.le_refl _) HINC.out).mono ?_
      rintro e w1 ⟨rfl, ⟨d2, r1, r2, r3⟩, r4⟩
      have R1 := Hd.mk r1
      have R4 := Hd.mk (HF.out.trans r4 (by simp))
      have R2 : Hd (Mix ky rk n 20 40 0 d d2) := ⟨by
        have := HM.out
        rw [HA.out] at this r2 r3
        exact (this.step (by omega) (fun i j e => by simp only [Nat.div_one] at e; rw [e]) r2 r3 (Nat.le_refl _) (by have := HA.out; have := HB.out; omega) (by have := HA.out; omega) (.inr rfl)).next (Nat.le_refl _)⟩
      clear r1 r2 r3 r4 HM HINC HW HF HA HB
      go_wp2
      go_loopg [6, 7, 8, 9] n (fun kq sv _ _ _ wr => ∃ (s : Nat) (d' : Nat → Nat × Nat), sv = .int .i64 (s : Nat) ∧ 20 ≤ s ∧ s ≤ 2199023255572 ∧ n - s ≤ kq ∧ Hd (Mix ky rk n s (2 * s) 0 d d') ∧ Hd (Rw wr g n d') ∧ Hd (Fr w wr [g]))
      case atStart => exact ⟨20, d2, rfl, by omega, by omega, by omega, R2, R1, R4⟩
      case round =>
        obtain ⟨s, d3, rfl, hs1, hs2, hks, HM3, HW3, HF3⟩ := hrel
        obtain ⟨gko, rfl⟩ : ∃ gko, gko = gk := ⟨_, rfl⟩
        by_cases hsn : s < n
        · go_wp2
          go_loopg [7, 8] n (fun kq av bv wr => ∃ (k : Nat) (d' : Nat → Nat × Nat), av = .int .i64 ((k * (2 * s) : Nat) : Int) ∧ bv = .int .i64 ((k * (2 * s) + 2 * s : Nat) : Int) ∧ k * (2 * s) ≤ n ∧ n - k * (2 * s) ≤ kq ∧ Hd (Mix ky rk n s (2 * s) (k * (2 * s)) d d') ∧ Hd (Rw wr g n d') ∧ Hd (Fr w wr [g]))
          case atStart => exact ⟨0, d3, by simp, by simp, by omega, by omega, ⟨by simpa using HM3.out⟩, HW3, HF3⟩
          case round =>
            obtain ⟨k, d4, rfl, rfl, hka, hkk, HM4, HW4, HF4⟩ := hrel
            obtain ⟨a, ha⟩ : ∃ a, a = k * (2 * s) := ⟨_, rfl⟩
            obtain ⟨b, hb⟩ : ∃ b, b = k * (2 * s) + 2 * s := ⟨_, rfl⟩
            have HA := Hd.mk ha
            have HB := Hd.mk hb
            have hab : b ≤ a + 2 * s ∧ a + 2 * s ≤ b := by omega
            rw [← hb, ← ha]
            rw [← ha] at hka hkk
            clear ha hb
            by_cases hlt : b ≤ n
            · have h2 : Hd (Srt ky rk d4 a (a + s) ∧ Srt ky rk d4 (a + s) b ∧ Lo rk d4 a (a + s) b) := ⟨by
                have := HM4.out.two (b := b) (by omega) HI.out hlt (by have := HA.out; omega) (by have := HB.out; omega)
                rw [← HA.out] at this
                exact this⟩
              go_wp2_with (fail)
              rw [show (a : Int) + (s : Int) = ((a + s : Nat) : Int) from by omega]
              refine (merge_any g n c hn hnc (b - a) wr d4 a (a + s) b (Nat.le_refl _) HW4.out (by omega) (by omega) hlt h2.out.1 h2.out.2.1 h2.out.2.2).mono ?_
              rintro e w1 ⟨rfl, ⟨d5, r1, r2, r3⟩, r4⟩
              have R1 := Hd.mk r1
              have R4 := Hd.mk (HF4.out.trans r4 (by simp))
              have R2 : Hd (Mix ky rk n s (2 * s) b d d5) := ⟨by
                rw [HA.out] at r2 r3
                exact HM4.out.step (by omega) (fun i j e => by rw [blk_two, blk_two, e]) r2 r3 hlt (by rw [HB.out]; omega) (by rw [HB.out]; omega) (.inl (by rw [HB.out]))⟩
              clear r1 r2 r3 r4
              go_wp2
              go_roundg (gk - 1)
              case measure => go_light; omega
              case rel =>
                go_light
                have h1 := HA.out
                have h2 := HB.out
                have h3 : b = (k + 1) * (2 * s) := by rw [Nat.add_mul]; omega
                exact ⟨k + 1, d5, by rw [← h3], by rw [← h3]; first | rfl | (congr 1; omega), by omega, by omega, by rw [← h3]; exact R2, R1, R4⟩
            · by_cases hms : a + s < n
              · have h2 : Hd (Srt ky rk d4 a (a + s) ∧ Srt ky rk d4 (a + s) n ∧ Lo rk d4 a (a + s) n) := ⟨by
                  have := HM4.out.two (b := n) (by omega) HI.out (Nat.le_refl _) (by have := HA.out; omega) (by have := HB.out; omega)
                  rw [← HA.out] at this
                  exact this⟩
                have hms' : (a : Int) + (s : Int) < n := by omega
                go_wp2_with (fail)
                rw [show (a : Int) + (s : Int) = ((a + s : Nat) : Int) from by omega]
                refine (merge_any g n c hn hnc (n - a) wr d4 a (a + s) n (Nat.le_refl _) HW4.out (by omega) hms (Nat.le_refl _) h2.out.1 h2.out.2.1 h2.out.2.2).mono ?_
                rintro e w1 ⟨rfl, ⟨d5, r1, r2, r3⟩, r4⟩
                have R1 := Hd.mk r1
                have R4 := Hd.mk (HF4.out.trans r4 (by simp))
                have R2 : Hd (Mix ky rk n (2 * s) (2 * (2 * s)) 0 d d5) := ⟨by
                  rw [HA.out] at r2 r3
                  exact (HM4.out.step (by omega) (fun i j e => by rw [blk_two, blk_two, e]) r2 r3 (Nat.le_refl _) (by have := HB.out; omega) (by have := HA.out; omega) (.inr rfl)).next (Nat.le_refl _)⟩
                clear r1 r2 r3 r4
                go_wp2
                go_roundg (gko - 1)
                case measure => go_light; omega
                case rel =>
                  go_light
                  exact ⟨2 * s, d5, by first | rfl | (congr 1; omega), by omega, by omega, by omega, R2, R1, R4⟩
              · have hms' : ¬ (a : Int) + (s : Int) < n := by omega
                have R2 : Hd (Mix ky rk n (2 * s) (2 * (2 * s)) 0 d d4) := ⟨(HM4.out.rest (by omega) (by have := HA.out; omega)).next (Nat.le_refl _)⟩
                go_wp2
                go_roundg (gko - 1)
                case measure => go_light; omega
                case rel =>
                  go_light
                  exact ⟨2 * s, d4, by first | rfl | (congr 1; omega), by omega, by omega, by omega, R2, HW4, HF4⟩
        · go_wp2
          go_end0
          exact ⟨rfl, ⟨d3, HW3.out, HM3.out.pm, HM3.out.end (by omega)⟩, HF3.out⟩
theorem sort_any (w : World) (g n c : Nat) (d : Nat → Nat × Nat) (hR : Rw w g n d) (hn : n ≤ 1099511627776) (hnc : n ≤ c) (hinc : ∀ i j, i < j → j < n → rk (d i) < rk (d j)) :
    Calls Try.prog 80 #[.slice (some ⟨g, 0, none⟩) n c, lfn] w fun e w' => e = .returned (.tuple #[]) ∧ (∃ d', Rw w' g n d' ∧ (lst n d').Perm (lst n d) ∧ Srt ky rk d' 0 n) ∧ Fr w w' [g] := by
  go_enter Try.func80, Try.ntmps80
  go_wp2_with (fail)
  refine (stable_any w g n c d hR hn hnc hinc).mono ?_
  rintro e w1 ⟨rfl, h1, h2⟩
  have H1 := Hd.mk h1
  have H2 := Hd.mk h2
  clear h1 h2
  go_wp2
  go_end0
  exact ⟨rfl, H1.out, H2.out⟩
end Go.Proofs.Ytkdgfioigkijgaa.Sort
