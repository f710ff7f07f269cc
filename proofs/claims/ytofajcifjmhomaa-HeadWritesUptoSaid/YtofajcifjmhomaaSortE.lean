/- Stable sorting of leaves (chapter 04): slices.SortStableFunc. Conditions: at most 2^40 items. -/
import Derived.Test.YtofajcifjmhomaaSortD
set_option linter.unusedVariables false
set_option linter.unusedSimpArgs false
set_option maxRecDepth 100000
namespace Go.Proofs.Ytofajcifjmhomaa.Sort
open Go.RowKit Go.Proofs.Ytofajcifjmhomaa.Lib Go.Proofs.Ytofajcifjmhomaa.Ints Go.Proofs.Ytofajcifjmhomaa.Sorts

set_option maxHeartbeats 4000000 in
theorem stable_any (w : World) (g n c : Nat) (d : Nat → Nat × Nat) (hR : Rw w g n d) (hn : n ≤ 1099511627776) (hnc : n ≤ c) (hinc : ∀ i j, i < j → j < n → rk (d i) < rk (d j)) :
    Calls Try.prog 106 #[.slice (some ⟨g, 0, none⟩) n c, .int .i64 (n : Nat), lfn] w fun e w' => e = .returned (.tuple #[]) ∧ (∃ d', Rw w' g n d' ∧ (lst n d').Perm (lst n d) ∧ Srt ky rk d' 0 n) ∧ Fr w w' [g] := by
  have HR := Hd.mk hR
  have HI := Hd.mk hinc
  clear hR hinc
  unfold lfn
  go_enter Try.func106, Try.ntmps106
  go_wp2
  go_loopg [7, 8] n (fun kq av bv wr => ∃ (k : Nat) (d' : Nat → Nat × Nat), av = .int .i64 ((k * 20 : Nat) : Int) ∧ bv = .int .i64 ((k * 20 + 20 : Nat) : Int) ∧ k * 20 ≤ n ∧ n - k * 20 ≤ kq ∧ Hd (Mix ky rk n 1 20 (k * 20) d d') ∧ Hd (Rw wr g n d') ∧ Hd (Fr w wr [g]))
  case atStart => exact ⟨0, d, rfl, rfl, by omega, by omega, ⟨by simpa using Mix.start n 20 d⟩, HR, ⟨Fr.refl _ _⟩⟩
  case round =>
    obtain ⟨k, d1, rfl, rfl, hka, hkk, HM, HW, HF⟩ := hrel
    have HINC : Hd (∀ p q, k * 20 ≤ p → p < q → q < n → rk (d1 p) < rk (d1 q)) := ⟨fun p q e1 e2 e3 => by
      obtain ⟨x, x1, x2, x3⟩ := HM.out.ow2 p (by omega) e1
      obtain ⟨y, y1, y2, y3⟩ := HM.out.ow2 q e3 (by omega)
      rw [x3, y3]
      simp only [Nat.div_one] at x2 y2
      exact HI.out x y (by omega) y1⟩
    obtain ⟨a, ha⟩ : ∃ a, a = k * 20 := ⟨_, rfl⟩
    obtain ⟨b, hb⟩ : ∃ b, b = k * 20 + 20 := ⟨_, rfl⟩
    have HA := Hd.mk ha
    have HB := Hd.mk hb
    have hab : b ≤ a + 20 ∧ a + 20 ≤ b := by omega
    rw [← hb, ← ha]
    rw [← ha] at hka hkk HM HINC
    clear ha hb
    by_cases hlt : b ≤ n
    · go_wp2_with (fail)
      refine (insertion_any wr g n c d1 a b HW.out hn hnc (by omega) hlt (fun p q e1 e2 e3 => HINC.out p q e1 e2 (by omega))).mono ?_
      rintro e w1 ⟨rfl, ⟨d2, r1, r2, r3⟩, r4⟩
      have R1 := Hd.mk r1
      have R4 := Hd.mk (HF.out.trans r4 (by simp))
      have R2 : Hd (Mix ky rk n 1 20 b d d2) := ⟨by
        have := HM.out
        rw [HA.out] at this r2 r3
        exact this.step (by omega) (fun i j e => by simp only [Nat.div_one] at e; rw [e]) r2 r3 hlt (by rw [HB.out]; omega) (by rw [HB.out]; omega) (.inl (by rw [HB.out]))⟩
      clear r1 r2 r3 r4
      go_wp2
      go_roundg (gk - 1)
      case measure => go_light; omega
      case rel =>
        go_light
        have h1 := HA.out
        have h2 := HB.out
        have h3 : b = (k + 1) * 20 := by omega
        exact ⟨k + 1, d2, by rw [← h3], by first | rfl | (congr 1; omega), by omega, by omega, by rw [← h3]; exact R2, R1, R4⟩
    · go_wp2_with (fail)
      refine (insertion_any wr g n c d1 a n HW.out hn hnc (by omega) (Nat.le_refl _) HINC.out).mono ?_
      rintro e w1 ⟨rfl, ⟨d2, r1, r2, r3⟩, r4⟩
      have R1 := Hd.mk r1
      have R4 := Hd.mk (HF.out.trans r4 (by simp))
      have R2 : Hd (Mix ky rk n 20 40 0 d d2) := ⟨by
        have := HM.out
        rw [HA.out] at this r2 r3
        exact (this.step (by omega) (fun i j e => by simp only [Nat.div_one] at e; rw [e]) r2 r3 (Nat.le_refl _) (by have := HA.out; have := HB.out; omega) (by have := HA.out; omega) (.inr rfl)).next (Nat.le_refl _)⟩
      clear r1 r2 r3 r4 HM HINC HW HF HA HB
      go_wp2
      go_loopg [6, 7, 8, 9] n (fun kq sv _ _ _ wr => ∃ (s : Nat) (d' : Nat → Nat × Nat), sv = .int .i64 (s : Nat) ∧ 20 ≤ s ∧ s ≤ 2199023255572 ∧ n - s ≤ kq ∧ Hd (Mix ky rk n s (2 * s) 0 d d') ∧ Hd (Rw wr g n d') ∧ Hd (Fr w wr [g]))
      case atStart => exact ⟨20, d2, rfl, by omega, by omega, by omega, R2, R1, R4⟩
      case round =>
        obtain ⟨s, d3, rfl, hs1, hs2, hks, HM3, HW3, HF3⟩ := hrel
        obtain ⟨gko, rfl⟩ : ∃ gko, gko = gk := ⟨_, rfl⟩
        by_cases hsn : s < n
        · go_wp2
          go_loopg [7, 8] n (fun kq av bv wr => ∃ (k : Nat) (d' : Nat → Nat × Nat), av = .int .i64 ((k * (2 * s) : Nat) : Int) ∧ bv = .int .i64 ((k * (2 * s) + 2 * s : Nat) : Int) ∧ k * (2 * s) ≤ n ∧ n - k * (2 * s) ≤ kq ∧ Hd (Mix ky rk n s (2 * s) (k * (2 * s)) d d') ∧ Hd (Rw wr g n d') ∧ Hd (Fr w wr [g]))
          case atStart => exact ⟨0, d3, by simp, by simp, by omega, by omega, ⟨by simpa using HM3.out⟩, HW3, HF3⟩
          case round =>
            obtain ⟨k, d4, rfl, rfl, hka, hkk, HM4, HW4, HF4⟩ := hrel
            obtain ⟨a, ha⟩ : ∃ a, a = k * (2 * s) := ⟨_, rfl⟩
            obtain ⟨b, hb⟩ : ∃ b, b = k * (2 * s) + 2 * s := ⟨_, rfl⟩
            have HA := Hd.mk ha
            have HB := Hd.mk hb
            have hab : b ≤ a + 2 * s ∧ a + 2 * s ≤ b := by omega
            rw [← hb, ← ha]
            rw [← ha] at hka hkk
            clear ha hb
            by_cases hlt : b ≤ n
            · have h2 : Hd (Srt ky rk d4 a (a + s) ∧ Srt ky rk d4 (a + s) b ∧ Lo rk d4 a (a + s) b) := ⟨by
                have := HM4.out.two (b := b) (by omega) HI.out hlt (by have := HA.out; omega) (by have := HB.out; omega)
                rw [← HA.out] at this
                exact this⟩
              go_wp2_with (fail)
              rw [show (a : Int) + (s : Int) = ((a + s : Nat) : Int) from by omega]
              refine (merge_any g n c hn hnc (b - a) wr d4 a (a + s) b (Nat.le_refl _) HW4.out (by omega) (by omega) hlt h2.out.1 h2.out.2.1 h2.out.2.2).mono ?_
              rintro e w1 ⟨rfl, ⟨d5, r1, r2, r3⟩, r4⟩
              have R1 := Hd.mk r1
              have R4 := Hd.mk (HF4.out.trans r4 (by simp))
              have R2 : Hd (Mix ky rk n s (2 * s) b d d5) := ⟨by
                rw [HA.out] at r2 r3
                exact HM4.out.step (by omega) (fun i j e => by rw [blk_two, blk_two, e]) r2 r3 hlt (by rw [HB.out]; omega) (by rw [HB.out]; omega) (.inl (by rw [HB.out]))⟩
              clear r1 r2 r3 r4
              go_wp2
              go_roundg (gk - 1)
              case measure => go_light; omega
              case rel =>
                go_light
                have h1 := HA.out
                have h2 := HB.out
                have h3 : b = (k + 1) * (2 * s) := by rw [Nat.add_mul]; omega
                exact ⟨k + 1, d5, by rw [← h3], by rw [← h3]; first | rfl | (congr 1; omega), by omega, by omega, by rw [← h3]; exact R2, R1, R4⟩
            · by_cases hms : a + s < n
              · have h2 : Hd (Srt ky rk d4 a (a + s) ∧ Srt ky rk d4 (a + s) n ∧ Lo rk d4 a (a + s) n) := ⟨by
                  have := HM4.out.two (b := n) (by omega) HI.out (Nat.le_refl _) (by have := HA.out; omega) (by have := HB.out; omega)
                  rw [← HA.out] at this
                  exact this⟩
                have hms' : (a : Int) + (s : Int) < n := by omega
                go_wp2_with (fail)
                rw [show (a : Int) + (s : Int) = ((a + s : Nat) : Int) from by omega]
                refine (merge_any g n c hn hnc (n - a) wr d4 a (a + s) n (Nat.le_refl _) HW4.out (by omega) hms (Nat.le_refl _) h2.out.1 h2.out.2.1 h2.out.2.2).mono ?_
                rintro e w1 ⟨rfl, ⟨d5, r1, r2, r3⟩, r4⟩
                have R1 := Hd.mk r1
                have R4 := Hd.mk (HF4.out.trans r4 (by simp))
                have R2 : Hd (Mix ky rk n (2 * s) (2 * (2 * s)) 0 d d5) := ⟨by
                  rw [HA.out] at r2 r3
                  exact (HM4.out.step (by omega) (fun i j e => by rw [blk_two, blk_two, e]) r2 r3 (Nat.le_refl _) (by have := HB.out; omega) (by have := HA.out; omega) (.inr rfl)).next (Nat.le_refl _)⟩
                clear r1 r2 r3 r4
                go_wp2
                go_roundg (gko - 1)
                case measure => go_light; omega
                case rel =>
                  go_light
                  exact ⟨2 * s, d5, by first | rfl | (congr 1; omega), by omega, by omega, by omega, R2, R1, R4⟩
              · have hms' : ¬ (a : Int) + (s : Int) < n := by omega
                have R2 : Hd (Mix ky rk n (2 * s) (2 * (2 * s)) 0 d d4) := ⟨(HM4.out.rest (by omega) (by have := HA.out; omega)).next (Nat.le_refl _)⟩
                go_wp2
                go_roundg (gko - 1)
                case measure => go_light; omega
                case rel =>
                  go_light
                  exact ⟨2 * s, d4, by first | rfl | (congr 1; omega), by omega, by omega, by omega, R2, HW4, HF4⟩
        · go_wp2
          go_end0
          exact ⟨rfl, ⟨d3, HW3.out, HM3.out.pm, HM3.out.end (by omega)⟩, HF3.out⟩
theorem sort_any (w : World) (g n c : Nat) (d : Nat → Nat × Nat) (hR : Rw w g n d) (hn : n ≤ 1099511627776) (hnc : n ≤ c) (hinc : ∀ i j, i < j → j < n → rk (d i) < rk (d j)) :
    Calls Try.prog 101 #[.slice (some ⟨g, 0, none⟩) n c, lfn] w fun e w' => e = .returned (.tuple #[]) ∧ (∃ d', Rw w' g n d' ∧ (lst n d').Perm (lst n d) ∧ Srt ky rk d' 0 n) ∧ Fr w w' [g] := by
  go_enter Try.func101, Try.ntmps101
  go_wp2_with (fail)
  refine (stable_any w g n c d hR hn hnc hinc).mono ?_
  rintro e w1 ⟨rfl, h1, h2⟩
  have H1 := Hd.mk h1
  have H2 := Hd.mk h2
  clear h1 h2
  go_wp2
  go_end0
  exact ⟨rfl, H1.out, H2.out⟩
end Go.Proofs.Ytofajcifjmhomaa.Sort
