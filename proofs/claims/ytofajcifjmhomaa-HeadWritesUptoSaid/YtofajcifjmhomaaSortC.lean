/- Stable sorting of leaves (chapter 04): two sorted neighbours merged where one of them has one item. Conditions: at most 2^40 items. -/
import Derived.Test.YtofajcifjmhomaaSortB
set_option linter.unusedVariables false
set_option linter.unusedSimpArgs false
set_option maxRecDepth 100000
namespace Go.Proofs.Ytofajcifjmhomaa.Sort
open Go.RowKit Go.Proofs.Ytofajcifjmhomaa.Lib Go.Proofs.Ytofajcifjmhomaa.Ints Go.Proofs.Ytofajcifjmhomaa.Sorts

set_option maxHeartbeats 2000000 in
theorem merge_first (w : World) (g n c : Nat) (d : Nat → Nat × Nat) (a m b : Nat) (hm : m = a + 1) (hR : Rw w g n d) (hn : n ≤ 1099511627776) (hnc : n ≤ c) (h1 : a + 1 < b) (h2 : b ≤ n) (hs : Srt ky rk d (a + 1) b) (hl : Lo rk d a (a + 1) b) :
    Calls Try.prog 109 #[.slice (some ⟨g, 0, none⟩) n c, .int .i64 (a : Nat), .int .i64 (m : Nat), .int .i64 (b : Nat), lfn] w fun e w' => e = .returned (.tuple #[]) ∧ (∃ d', Rw w' g n d' ∧ Ch n a b d d' ∧ Srt ky rk d' a b) ∧ Fr w w' [g] := by
  have HR := Hd.mk hR
  have HS := Hd.mk hs
  have HL := Hd.mk hl
  clear hR hs hl
  unfold lfn
  have e0 : (((m : Int) - (a : Int) == 1)) = true := by simp; omega
  have e2 : a ≤ m ∧ m ≤ b := by omega
  have HM := Hd.mk hm
  clear hm
  go_enter Try.func109, Try.ntmps109
  go_wp2
  go_loopg [10, 11] (b - a - 1) (fun kq iv jv wr => ∃ (i j : Nat), iv = .int .i64 (i : Nat) ∧ jv = .int .i64 (j : Nat) ∧ a + 1 ≤ i ∧ i ≤ j ∧ j ≤ b ∧ j - i ≤ kq ∧ Hd (∀ q, a + 1 ≤ q → q < i → ky (d q) < ky (d a)) ∧ Hd (∀ q, j ≤ q → q < b → ¬ ky (d q) < ky (d a)) ∧ Hd (Rw wr g n d) ∧ Hd (Fr w wr [g]))
  case atStart => have := HM.out; exact ⟨m, b, rfl, rfl, by omega, by omega, by omega, by omega, ⟨fun q q1 q2 => by omega⟩, ⟨fun q q1 q2 => by omega⟩, HR, ⟨Fr.refl _ _⟩⟩
  case round =>
    obtain ⟨i, j, rfl, rfl, hai, hij, hjb, hk, HA, HB, HW, HF⟩ := hrel
    by_cases hlt : i < j
    · obtain ⟨h, hh⟩ : ∃ h, h = (i + j) / 2 := ⟨_, rfl⟩
      go_upto_region 5 with (fail)
      rw [show ((i : Int) + (j : Int)) / 2 = ((h : Nat) : Int) from by omega]
      have ca0 := HW.out.cell (i := h) (j := 0) (by omega) (by decide)
      have ca1 := HW.out.cell (i := h) (j := 1) (by omega) (by decide)
      have ca2 := HW.out.cell (i := h) (j := 2) (by omega) (by decide)
      have cb0 := HW.out.cell (i := a) (j := 0) (by omega) (by decide)
      have cb1 := HW.out.cell (i := a) (j := 1) (by omega) (by decide)
      have cb2 := HW.out.cell (i := a) (j := 2) (by omega) (by decide)
      obtain ⟨x, hx⟩ : ∃ x, x = d h := ⟨_, rfl⟩
      obtain ⟨y, hy⟩ : ∃ y, y = d a := ⟨_, rfl⟩
      rw [← hx] at ca0 ca1 ca2
      rw [← hy] at cb0 cb1 cb2
      have HX := Hd.mk hx
      have HY := Hd.mk hy
      have HH := Hd.mk hh
      have hhb : i ≤ h ∧ h < j := by omega
      clear hx hy hh
      simp only [lfc, List.getElem?_cons_zero, List.getElem?_cons_succ, Nat.add_zero] at ca0 ca1 ca2 cb0 cb1 cb2
      have n7 : (h : Int) < n := by omega
      have n9 : (a : Int) < n := by omega
      by_cases hk2 : x.1 < y.1
      · have hd : decide (cmpv (x.1 : Int) (y.1 : Int) < 0) = true := by rw [decide_eq_true_eq, cmpv_lt]; exact hk2
        have HK : Hd (ky (d h) < ky (d a)) := ⟨by rw [← HX.out, ← HY.out]; unfold ky; omega⟩
        go_region_held3 (fun w' => w'.cell? ⟨g, h * 3, none⟩ = some (.int .i64 x.1) ∧ w'.cell? ⟨g, h * 3 + 1, none⟩ = some (.int .i64 x.2) ∧ w'.cell? ⟨g, h * 3 + 2, none⟩ = some (.slice none 0 0) ∧ w'.cell? ⟨g, a * 3, none⟩ = some (.int .i64 y.1) ∧ w'.cell? ⟨g, a * 3 + 1, none⟩ = some (.int .i64 y.2) ∧ w'.cell? ⟨g, a * 3 + 2, none⟩ = some (.slice none 0 0)) (go_keep)
          (first | (go_at_call 102; refine (less_any _ x y).mono ?_; rintro e w5 ⟨rfl, q5⟩; have k0 := Fr.cellAt q5 (by simp) ca0; have k1 := Fr.cellAt q5 (by simp) ca1; have k2 := Fr.cellAt q5 (by simp) ca2; have l0 := Fr.cellAt q5 (by simp) cb0; have l1 := Fr.cellAt q5 (by simp) cb1; have l2 := Fr.cellAt q5 (by simp) cb2; have Q5 := Hd.mk q5; clear q5))
        clear ca0 ca1 ca2 cb0 cb1 cb2 k0 k1 k2 l0 l1 l2 n7 n9
        have HW5 := Hd.mk (HW.out.frame Q5.out.ofDrew (by simp))
        have HF5 := Hd.mk (HF.out.trans Q5.out.ofDrew (by simp))
        go_wp2
        go_roundg (gk - 1)
        case measure => omega
        case rel => exact ⟨h + 1, j, by go_num, rfl, by omega, by omega, by omega, by omega, ⟨fun q q1 q2 => by
          have := HS.out.key_le q1 (show q ≤ h by omega) (by omega)
          have := HK.out
          omega⟩, HB, HW5, HF5⟩
      · have hd : decide (cmpv (x.1 : Int) (y.1 : Int) < 0) = false := by rw [decide_eq_false_iff_not, cmpv_lt]; exact hk2
        have HK : Hd (ky (d a) ≤ ky (d h)) := ⟨by rw [← HX.out, ← HY.out]; unfold ky; omega⟩
        go_region_held3 (fun w' => w'.cell? ⟨g, h * 3, none⟩ = some (.int .i64 x.1) ∧ w'.cell? ⟨g, h * 3 + 1, none⟩ = some (.int .i64 x.2) ∧ w'.cell? ⟨g, h * 3 + 2, none⟩ = some (.slice none 0 0) ∧ w'.cell? ⟨g, a * 3, none⟩ = some (.int .i64 y.1) ∧ w'.cell? ⟨g, a * 3 + 1, none⟩ = some (.int .i64 y.2) ∧ w'.cell? ⟨g, a * 3 + 2, none⟩ = some (.slice none 0 0)) (go_keep)
          (first | (go_at_call 102; refine (less_any _ x y).mono ?_; rintro e w5 ⟨rfl, q5⟩; have k0 := Fr.cellAt q5 (by simp) ca0; have k1 := Fr.cellAt q5 (by simp) ca1; have k2 := Fr.cellAt q5 (by simp) ca2; have l0 := Fr.cellAt q5 (by simp) cb0; have l1 := Fr.cellAt q5 (by simp) cb1; have l2 := Fr.cellAt q5 (by simp) cb2; have Q5 := Hd.mk q5; clear q5))
        clear ca0 ca1 ca2 cb0 cb1 cb2 k0 k1 k2 l0 l1 l2 n7 n9
        have HW5 := Hd.mk (HW.out.frame Q5.out.ofDrew (by simp))
        have HF5 := Hd.mk (HF.out.trans Q5.out.ofDrew (by simp))
        go_wp2
        go_roundg (gk - 1)
        case measure => omega
        case rel => exact ⟨i, h, rfl, rfl, by omega, by omega, by omega, by omega, HA, ⟨fun q q1 q2 => by
          have := HS.out.key_le (show a + 1 ≤ h by omega) q1 q2
          have := HK.out
          omega⟩, HW5, HF5⟩
    · obtain rfl : i = j := by omega
      go_wp2
      go_loopg [13] (i - 1 - a) (fun kq kv wr2 => ∃ (k : Nat), kv = .int .i64 (k : Nat) ∧ a ≤ k ∧ k ≤ i - 1 ∧ i - 1 - k ≤ kq ∧ Hd (Ch n a b d (shl d a k)) ∧ Hd (Rw wr2 g n (shl d a k)) ∧ Hd (Fr w wr2 [g]))
      case atStart => exact ⟨a, rfl, by omega, by omega, by omega, ⟨by rw [shl_start]; exact Ch.refl _ _ _ _⟩, ⟨by rw [shl_start]; exact HW.out⟩, HF⟩
      case round =>
        obtain ⟨k, rfl, hak, hki, hkk, HC, HW2, HF2⟩ := hrel
        by_cases hlt2 : k < i - 1
        · have n0 : (k : Int) < (i : Int) - 1 := by omega
          go_upto_region 11 with (fail)
          have ca0 := HW2.out.cell (i := k) (j := 0) (by omega) (by decide)
          have ca1 := HW2.out.cell (i := k) (j := 1) (by omega) (by decide)
          have ca2 := HW2.out.cell (i := k) (j := 2) (by omega) (by decide)
          have cb0 := HW2.out.cell (i := k + 1) (j := 0) (by omega) (by decide)
          have cb1 := HW2.out.cell (i := k + 1) (j := 1) (by omega) (by decide)
          have cb2 := HW2.out.cell (i := k + 1) (j := 2) (by omega) (by decide)
          obtain ⟨x, hx⟩ : ∃ x, x = shl d a k k := ⟨_, rfl⟩
          obtain ⟨y, hy⟩ : ∃ y, y = shl d a k (k + 1) := ⟨_, rfl⟩
          rw [← hx] at ca0 ca1 ca2
          rw [← hy] at cb0 cb1 cb2
          have HX := Hd.mk hx
          have HY := Hd.mk hy
          clear hx hy
          simp only [lfc, List.getElem?_cons_zero, List.getElem?_cons_succ, Nat.add_zero] at ca0 ca1 ca2 cb0 cb1 cb2
          have fr : ∀ o, wr.frozen? ⟨g, o, none⟩ = false := HW2.out.free
          have n1 : ((k : Int) + 1).toNat = k + 1 := by omega
          have n3 : IntKind.i64.wrap ((k : Int) + 1) = (k : Int) + 1 := IntWalk.i64_in _ (by omega)
          have n5 : (0 : Int) ≤ (k : Int) + 1 := by omega
          have n7 : ((k : Int) + 1) < n := by omega
          have n9 : (k : Int) < n := by omega
          go_region
          have HP : Hd (Rw (six wr g k (k + 1) x y).drew g n (shl d a (k + 1))) := ⟨by rw [← shl_step d hak]; exact (HW2.out.swap (by omega) (by omega) (by omega) HX.out HY.out).drew⟩
          have HG : Hd (Fr w (six wr g k (k + 1) x y).drew [g]) := ⟨(Fr.six HF2.out (by simp)).drew⟩
          have HD : Hd (Ch n a b d (shl d a (k + 1))) := ⟨by rw [← shl_step d hak]; exact HC.out.trans (Ch.sw _ h2 (by omega) (by omega))⟩
          clear n1 n3 n5 n7 n9 ca0 ca1 ca2 cb0 cb1 cb2 fr
          unfold six at HP HG
          go_wp2
          go_roundg (gk - 1)
          case measure => omega
          case rel => exact ⟨k + 1, by go_num, by omega, by omega, by omega, HD, HP, HG⟩
        · obtain rfl : k = i - 1 := by omega
          have n0 : ¬ ((i - 1 : Nat) : Int) < (i : Int) - 1 := by omega
          go_wp2
          (try simp only [Exit.inBlock, Exit.then]); refine bodyPost_ret (results_none rfl _ _ _) rfl ?_
          exact ⟨rfl, ⟨_, HW2.out, HC.out, shl_srt HS.out HL.out hai hjb HA.out (fun q q1 q2 => Int.not_lt.2 (HB.out q q1 q2))⟩, HF2.out⟩
set_option maxHeartbeats 2000000 in
theorem merge_last (w : World) (g n c : Nat) (d : Nat → Nat × Nat) (a m b : Nat) (hb : b = m + 1) (hR : Rw w g n d) (hn : n ≤ 1099511627776) (hnc : n ≤ c) (h1 : a + 1 < m) (h2 : b ≤ n) (hs : Srt ky rk d a m) (hl : Lo rk d a m (m + 1)) :
    Calls Try.prog 109 #[.slice (some ⟨g, 0, none⟩) n c, .int .i64 (a : Nat), .int .i64 (m : Nat), .int .i64 (b : Nat), lfn] w fun e w' => e = .returned (.tuple #[]) ∧ (∃ d', Rw w' g n d' ∧ Ch n a b d d' ∧ Srt ky rk d' a b) ∧ Fr w w' [g] := by
  have HR := Hd.mk hR
  have HS := Hd.mk hs
  have HL := Hd.mk hl
  clear hR hs hl
  unfold lfn
  have e0 : (((m : Int) - (a : Int) == 1)) = false := by simp; omega
  have e3 : (((b : Int) - (m : Int) == 1)) = true := by simp; omega
  have e2 : a ≤ m ∧ m ≤ b ∧ m < n := by omega
  have HM := Hd.mk hb
  clear hb
  go_enter Try.func109, Try.ntmps109
  go_wp2
  go_loopg [14, 15] (m - a) (fun kq iv jv wr => ∃ (i j : Nat), iv = .int .i64 (i : Nat) ∧ jv = .int .i64 (j : Nat) ∧ a ≤ i ∧ i ≤ j ∧ j ≤ m ∧ j - i ≤ kq ∧ Hd (∀ q, a ≤ q → q < i → ky (d q) ≤ ky (d m)) ∧ Hd (∀ q, j ≤ q → q < m → ky (d m) < ky (d q)) ∧ Hd (Rw wr g n d) ∧ Hd (Fr w wr [g]))
  case atStart => exact ⟨a, m, rfl, rfl, by omega, by omega, by omega, by omega, ⟨fun q q1 q2 => by omega⟩, ⟨fun q q1 q2 => by omega⟩, HR, ⟨Fr.refl _ _⟩⟩
  case round =>
    obtain ⟨i, j, rfl, rfl, hai, hij, hjb, hk, HA, HB, HW, HF⟩ := hrel
    by_cases hlt : i < j
    · obtain ⟨h, hh⟩ : ∃ h, h = (i + j) / 2 := ⟨_, rfl⟩
      go_upto_region 17 with (fail)
      rw [show ((i : Int) + (j : Int)) / 2 = ((h : Nat) : Int) from by omega]
      have ca0 := HW.out.cell (i := m) (j := 0) (by omega) (by decide)
      have ca1 := HW.out.cell (i := m) (j := 1) (by omega) (by decide)
      have ca2 := HW.out.cell (i := m) (j := 2) (by omega) (by decide)
      have cb0 := HW.out.cell (i := h) (j := 0) (by omega) (by decide)
      have cb1 := HW.out.cell (i := h) (j := 1) (by omega) (by decide)
      have cb2 := HW.out.cell (i := h) (j := 2) (by omega) (by decide)
      obtain ⟨x, hx⟩ : ∃ x, x = d m := ⟨_, rfl⟩
      obtain ⟨y, hy⟩ : ∃ y, y = d h := ⟨_, rfl⟩
      rw [← hx] at ca0 ca1 ca2
      rw [← hy] at cb0 cb1 cb2
      have HX := Hd.mk hx
      have HY := Hd.mk hy
      have HH := Hd.mk hh
      have hhb : i ≤ h ∧ h < j := by omega
      clear hx hy hh
      simp only [lfc, List.getElem?_cons_zero, List.getElem?_cons_succ, Nat.add_zero] at ca0 ca1 ca2 cb0 cb1 cb2
      have n7 : (h : Int) < n := by omega
      have n9 : (m : Int) < n := by omega
      by_cases hk2 : x.1 < y.1
      · have hd : decide (cmpv (x.1 : Int) (y.1 : Int) < 0) = true := by rw [decide_eq_true_eq, cmpv_lt]; exact hk2
        have HK : Hd (ky (d m) < ky (d h)) := ⟨by rw [← HX.out, ← HY.out]; unfold ky; omega⟩
        go_region_held3 (fun w' => w'.cell? ⟨g, m * 3, none⟩ = some (.int .i64 x.1) ∧ w'.cell? ⟨g, m * 3 + 1, none⟩ = some (.int .i64 x.2) ∧ w'.cell? ⟨g, m * 3 + 2, none⟩ = some (.slice none 0 0) ∧ w'.cell? ⟨g, h * 3, none⟩ = some (.int .i64 y.1) ∧ w'.cell? ⟨g, h * 3 + 1, none⟩ = some (.int .i64 y.2) ∧ w'.cell? ⟨g, h * 3 + 2, none⟩ = some (.slice none 0 0)) (go_keep)
          (first | (go_at_call 102; refine (less_any _ x y).mono ?_; rintro e w5 ⟨rfl, q5⟩; have k0 := Fr.cellAt q5 (by simp) ca0; have k1 := Fr.cellAt q5 (by simp) ca1; have k2 := Fr.cellAt q5 (by simp) ca2; have l0 := Fr.cellAt q5 (by simp) cb0; have l1 := Fr.cellAt q5 (by simp) cb1; have l2 := Fr.cellAt q5 (by simp) cb2; have Q5 := Hd.mk q5; clear q5))
        clear ca0 ca1 ca2 cb0 cb1 cb2 k0 k1 k2 l0 l1 l2 n7 n9
        have HW5 := Hd.mk (HW.out.frame Q5.out.ofDrew (by simp))
        have HF5 := Hd.mk (HF.out.trans Q5.out.ofDrew (by simp))
        go_wp2
        go_roundg (gk - 1)
        case measure => omega
        case rel => exact ⟨i, h, rfl, rfl, by omega, by omega, by omega, by omega, HA, ⟨fun q q1 q2 => by
          have := HS.out.key_le (show a ≤ h by omega) q1 q2
          have := HK.out
          omega⟩, HW5, HF5⟩
      · have hd : decide (cmpv (x.1 : Int) (y.1 : Int) < 0) = false := by rw [decide_eq_false_iff_not, cmpv_lt]; exact hk2
        have HK : Hd (ky (d h) ≤ ky (d m)) := ⟨by rw [← HX.out, ← HY.out]; unfold ky; omega⟩
        go_region_held3 (fun w' => w'.cell? ⟨g, m * 3, none⟩ = some (.int .i64 x.1) ∧ w'.cell? ⟨g, m * 3 + 1, none⟩ = some (.int .i64 x.2) ∧ w'.cell? ⟨g, m * 3 + 2, none⟩ = some (.slice none 0 0) ∧ w'.cell? ⟨g, h * 3, none⟩ = some (.int .i64 y.1) ∧ w'.cell? ⟨g, h * 3 + 1, none⟩ = some (.int .i64 y.2) ∧ w'.cell? ⟨g, h * 3 + 2, none⟩ = some (.slice none 0 0)) (go_keep)
          (first | (go_at_call 102; refine (less_any _ x y).mono ?_; rintro e w5 ⟨rfl, q5⟩; have k0 := Fr.cellAt q5 (by simp) ca0; have k1 := Fr.cellAt q5 (by simp) ca1; have k2 := Fr.cellAt q5 (by simp) ca2; have l0 := Fr.cellAt q5 (by simp) cb0; have l1 := Fr.cellAt q5 (by simp) cb1; have l2 := Fr.cellAt q5 (by simp) cb2; have Q5 := Hd.mk q5; clear q5))
        clear ca0 ca1 ca2 cb0 cb1 cb2 k0 k1 k2 l0 l1 l2 n7 n9
        have HW5 := Hd.mk (HW.out.frame Q5.out.ofDrew (by simp))
        have HF5 := Hd.mk (HF.out.trans Q5.out.ofDrew (by simp))
        go_wp2
        go_roundg (gk - 1)
        case measure => omega
        case rel => exact ⟨h + 1, j, by go_num, rfl, by omega, by omega, by omega, by omega, ⟨fun q q1 q2 => by
          have := HS.out.key_le q1 (show q ≤ h by omega) (by omega)
          have := HK.out
          omega⟩, HB, HW5, HF5⟩
    · obtain rfl : i = j := by omega
      go_wp2
      go_loopg [17] (m - i) (fun kq kv wr2 => ∃ (k : Nat), kv = .int .i64 (k : Nat) ∧ i ≤ k ∧ k ≤ m ∧ k - i ≤ kq ∧ Hd (Ch n a b d (shr d m k)) ∧ Hd (Rw wr2 g n (shr d m k)) ∧ Hd (Fr w wr2 [g]))
      case atStart => exact ⟨m, rfl, by omega, by omega, by omega, ⟨by rw [shr_start]; exact Ch.refl _ _ _ _⟩, ⟨by rw [shr_start]; exact HW.out⟩, HF⟩
      case round =>
        obtain ⟨k, rfl, hak, hki, hkk, HC, HW2, HF2⟩ := hrel
        by_cases hlt2 : i < k
        · go_upto_region 23 with (fail)
          have ca0 := HW2.out.cell (i := k) (j := 0) (by omega) (by decide)
          have ca1 := HW2.out.cell (i := k) (j := 1) (by omega) (by decide)
          have ca2 := HW2.out.cell (i := k) (j := 2) (by omega) (by decide)
          have cb0 := HW2.out.cell (i := k - 1) (j := 0) (by omega) (by decide)
          have cb1 := HW2.out.cell (i := k - 1) (j := 1) (by omega) (by decide)
          have cb2 := HW2.out.cell (i := k - 1) (j := 2) (by omega) (by decide)
          obtain ⟨x, hx⟩ : ∃ x, x = shr d m k k := ⟨_, rfl⟩
          obtain ⟨y, hy⟩ : ∃ y, y = shr d m k (k - 1) := ⟨_, rfl⟩
          rw [← hx] at ca0 ca1 ca2
          rw [← hy] at cb0 cb1 cb2
          have HX := Hd.mk hx
          have HY := Hd.mk hy
          clear hx hy
          simp only [lfc, List.getElem?_cons_zero, List.getElem?_cons_succ, Nat.add_zero] at ca0 ca1 ca2 cb0 cb1 cb2
          have fr : ∀ o, wr.frozen? ⟨g, o, none⟩ = false := HW2.out.free
          have n0 : (1 : Int) ≤ (k : Int) := by omega
          have n1 : ((k : Int) - 1).toNat = k - 1 := by omega
          have n3 : IntKind.i64.wrap ((k : Int) - 1) = (k : Int) - 1 := IntWalk.i64_in _ (by omega)
          have n5 : (0 : Int) ≤ (k : Int) - 1 := by omega
          have n7 : ((k : Int) - 1) < n := by omega
          have n9 : (k : Int) < n := by omega
          go_region
          have HP : Hd (Rw (six wr g k (k - 1) x y).drew g n (shr d m (k - 1))) := ⟨by rw [← shr_step d hki (by omega)]; exact (HW2.out.swap (by omega) (by omega) (by omega) HX.out HY.out).drew⟩
          have HG : Hd (Fr w (six wr g k (k - 1) x y).drew [g]) := ⟨(Fr.six HF2.out (by simp)).drew⟩
          have HD : Hd (Ch n a b d (shr d m (k - 1))) := ⟨by have := HM.out; rw [← shr_step d hki (by omega)]; exact HC.out.trans (Ch.sw _ h2 (by omega) (by omega))⟩
          clear n1 n3 n5 n7 n9 ca0 ca1 ca2 cb0 cb1 cb2 fr
          unfold six at HP HG
          go_wp2
          go_roundg (gk - 1)
          case measure => omega
          case rel => exact ⟨k - 1, by go_num, by omega, by omega, by omega, HD, HP, HG⟩
        · obtain rfl : i = k := by omega
          go_wp2
          (try simp only [Exit.inBlock, Exit.then]); refine bodyPost_ret (results_none rfl _ _ _) rfl ?_
          exact ⟨rfl, ⟨_, HW2.out, HC.out, by rw [HM.out]; exact shr_srt HS.out HL.out hai hjb (fun q q1 q2 => Int.not_lt.2 (HA.out q q1 q2)) HB.out⟩, HF2.out⟩
end Go.Proofs.Ytofajcifjmhomaa.Sort
