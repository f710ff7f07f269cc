/- Stable sorting of leaves (chapter 04): two sorted neighbours merged. Conditions: at most 2^40 items. -/
import Derived.Test.YtofajcifjmhomaaSortC
import Derived.Deep.CutRange
import Derived.Deep.Light
set_option linter.unusedVariables false
set_option linter.unusedSimpArgs false
set_option maxRecDepth 100000
namespace Go.Proofs.Ytofajcifjmhomaa.Sort
open Go.RowKit Go.Proofs.Ytofajcifjmhomaa.Lib Go.Proofs.Ytofajcifjmhomaa.Ints Go.Proofs.Ytofajcifjmhomaa.Sorts

/-- what a merge does -/
def Merged (w : World) (g n : Nat) (d : Nat → Nat × Nat) (a b : Nat) (e : Ending) (w' : World) : Prop :=
  e = .returned (.tuple #[]) ∧ (∃ d', Rw w' g n d' ∧ Ch n a b d d' ∧ Srt ky rk d' a b) ∧ Fr w w' [g]
set_option maxHeartbeats 4000000 in
theorem merge_any (g n c : Nat) (hn : n ≤ 1099511627776) (hnc : n ≤ c) : ∀ (L : Nat) (w : World) (d : Nat → Nat × Nat) (a m b : Nat), b - a ≤ L → Rw w g n d → a < m → m < b → b ≤ n → Srt ky rk d a m → Srt ky rk d m b → Lo rk d a m b →
    Calls Try.prog 109 #[.slice (some ⟨g, 0, none⟩) n c, .int .i64 (a : Nat), .int .i64 (m : Nat), .int .i64 (b : Nat), lfn] w (Merged w g n d a b) := by
  intro L
  induction L with
  | zero => intro w d a m b h0 hR h1 h2; omega
  | succ L ih =>
    intro w d a m b h0 hR h1 h2 h3 hs1 hs2 hlo
    by_cases hm : m = a + 1
    · subst hm
      exact merge_first w g n c d a (a + 1) b rfl hR hn hnc h2 h3 hs2 hlo
    by_cases hb : b = m + 1
    · subst hb
      exact merge_last w g n c d a m (m + 1) rfl hR hn hnc (by omega) h3 hs1 hlo
    have HIH := Hd.mk ih
    have HR := Hd.mk hR
    have HS1 := Hd.mk hs1
    have HS2 := Hd.mk hs2
    have HL := Hd.mk hlo
    clear ih hR hs1 hs2 hlo
    obtain ⟨mid, hmid⟩ : ∃ mid, mid = (a + b) / 2 := ⟨_, rfl⟩
    have hmb : a < mid ∧ mid < b := by omega
    have e0 : (((m : Int) - (a : Int) == 1)) = false := by simp; omega
    have e3 : (((b : Int) - (m : Int) == 1)) = false := by simp; omega
    have HMID := Hd.mk hmid
    unfold lfn
    go_enter Try.func109, Try.ntmps109
    go_upto_if 140 with (fail)
    rw [show ((a : Int) + (b : Int)) / 2 = ((mid : Nat) : Int) from by omega]
    clear hmid
    obtain ⟨lo, hlo⟩ : ∃ lo, lo = lo0 a m b := ⟨_, rfl⟩
    obtain ⟨hi, hhi⟩ : ∃ hi, hi = hi0 a m b := ⟨_, rfl⟩
    have HLO := Hd.mk hlo
    have HHI := Hd.mk hhi
    have hends := ends0 h1 h2
    rw [← hlo, ← hhi, ← HMID.out] at hends
    obtain ⟨p1, p2, p3, p4⟩ := hends
    have HP4 := Hd.mk p4
    clear p4 hlo hhi
    go_cut [20, 21] from 138 to 146 (fun s r wc => s = .int .i64 (lo : Nat) ∧ r = .int .i64 (hi : Nat) ∧ w = wc)
    case first =>
      by_cases hmm : mid < m
      · have q1 : lo = mid + m - b := by rw [HLO.out]; unfold lo0; rw [← HMID.out, if_pos hmm]
        have q2 : hi = mid := by rw [HHI.out]; unfold hi0; rw [← HMID.out, if_pos hmm]
        have Q1 := Hd.mk q1
        have Q2 := Hd.mk q2
        clear q1 q2
        go_wp2
        go_meet
        case rel => have := Q1.out; have := Q2.out; have := HMID.out; exact ⟨by congr 1; omega, by congr 1; omega, rfl⟩
      · have q1 : lo = a := by rw [HLO.out]; unfold lo0; rw [← HMID.out, if_neg hmm]
        have q2 : hi = m := by rw [HHI.out]; unfold hi0; rw [← HMID.out, if_neg hmm]
        have Q1 := Hd.mk q1
        have Q2 := Hd.mk q2
        clear q1 q2
        go_wp2
        go_meet
        case rel => have := Q1.out; have := Q2.out; have := HMID.out; exact ⟨by congr 1; omega, by congr 1; omega, rfl⟩
    case rest =>
    obtain ⟨rfl, rfl, rfl⟩ := hcut
    go_wp2
    go_loopg [20, 21] (hi - lo) (fun kq sv rv wr => ∃ (s r : Nat), sv = .int .i64 (s : Nat) ∧ rv = .int .i64 (r : Nat) ∧ lo ≤ s ∧ s ≤ r ∧ r ≤ hi ∧ r - s ≤ kq ∧ Hd (Seek ky d (mid + m - 1) lo hi s r) ∧ Hd (Rw wr g n d) ∧ Hd (Fr w wr [g]))
    case atStart => exact ⟨lo, hi, rfl, rfl, by omega, by omega, by omega, by omega, ⟨Seek.start d p2⟩, HR, ⟨Fr.refl _ _⟩⟩
    case round =>
      obtain ⟨s, r, rfl, rfl, hs1, hs2, hs3, hk, HSK, HW, HF⟩ := hrel
      by_cases hlt : s < r
      · obtain ⟨h, hh⟩ : ∃ h, h = (s + r) / 2 := ⟨_, rfl⟩
        go_upto_region 35 with (fail)
        rw [show ((s : Int) + (r : Int)) / 2 = ((h : Nat) : Int) from by omega]
        have hhb : s ≤ h ∧ h < r := by omega
        have h4 := HP4.out h (by omega) (by omega)
        obtain ⟨p, hp⟩ : ∃ p, p = mid + m - 1 - h := ⟨_, rfl⟩
        have HPP := Hd.mk hp
        rw [← hp] at h4
        have ca0 := HW.out.cell (i := p) (j := 0) (by omega) (by decide)
        have ca1 := HW.out.cell (i := p) (j := 1) (by omega) (by decide)
        have ca2 := HW.out.cell (i := p) (j := 2) (by omega) (by decide)
        have cb0 := HW.out.cell (i := h) (j := 0) (by omega) (by decide)
        have cb1 := HW.out.cell (i := h) (j := 1) (by omega) (by decide)
        have cb2 := HW.out.cell (i := h) (j := 2) (by omega) (by decide)
        obtain ⟨x, hx⟩ : ∃ x, x = d p := ⟨_, rfl⟩
        obtain ⟨y, hy⟩ : ∃ y, y = d h := ⟨_, rfl⟩
        rw [← hx] at ca0 ca1 ca2
        rw [← hy] at cb0 cb1 cb2
        have HX := Hd.mk hx
        have HY := Hd.mk hy
        clear hx hy hh
        simp only [lfc, List.getElem?_cons_zero, List.getElem?_cons_succ, Nat.add_zero] at ca0 ca1 ca2 cb0 cb1 cb2
        have n1 : ((mid : Int) + (m : Int) - 1 - (h : Int)).toNat = p := by omega
        have n3 : IntKind.i64.wrap ((mid : Int) + (m : Int) - 1 - (h : Int)) = (mid : Int) + (m : Int) - 1 - (h : Int) := IntWalk.i64_in _ (by omega)
        have n5 : (0 : Int) ≤ (mid : Int) + (m : Int) - 1 - (h : Int) := by omega
        have n7 : ((mid : Int) + (m : Int) - 1 - (h : Int)) < n := by omega
        have n9 : (h : Int) < n := by omega
        have n0 : (h : Int) ≤ (mid : Int) + (m : Int) - 1 := by omega
        clear hp
        by_cases hk2 : x.1 < y.1
        · have hd : decide (cmpv (x.1 : Int) (y.1 : Int) < 0) = true := by rw [decide_eq_true_eq, cmpv_lt]; exact hk2
          have HK : Hd (ky (d p) < ky (d h)) := ⟨by rw [← HX.out, ← HY.out]; unfold ky; omega⟩
          go_region_held3 (fun w' => w'.cell? ⟨g, p * 3, none⟩ = some (.int .i64 x.1) ∧ w'.cell? ⟨g, p * 3 + 1, none⟩ = some (.int .i64 x.2) ∧ w'.cell? ⟨g, p * 3 + 2, none⟩ = some (.slice none 0 0) ∧ w'.cell? ⟨g, h * 3, none⟩ = some (.int .i64 y.1) ∧ w'.cell? ⟨g, h * 3 + 1, none⟩ = some (.int .i64 y.2) ∧ w'.cell? ⟨g, h * 3 + 2, none⟩ = some (.slice none 0 0)) (go_keep)
            (first | (go_at_call 102; refine (less_any _ x y).mono ?_; rintro e w5 ⟨rfl, q5⟩; have k0 := Fr.cellAt q5 (by simp) ca0; have k1 := Fr.cellAt q5 (by simp) ca1; have k2 := Fr.cellAt q5 (by simp) ca2; have l0 := Fr.cellAt q5 (by simp) cb0; have l1 := Fr.cellAt q5 (by simp) cb1; have l2 := Fr.cellAt q5 (by simp) cb2; have Q5 := Hd.mk q5; clear q5))
          clear ca0 ca1 ca2 cb0 cb1 cb2 k0 k1 k2 l0 l1 l2 n0 n1 n3 n5 n7 n9
          have HW5 := Hd.mk (HW.out.frame Q5.out.ofDrew (by simp))
          have HF5 := Hd.mk (HF.out.trans Q5.out.ofDrew (by simp))
          go_wp2
          go_roundg (gk - 1)
          case measure => go_light; omega
          case rel => exact ⟨s, h, rfl, rfl, by omega, by omega, by omega, by omega, ⟨HSK.out.down HS1.out HS2.out p1 p3 HP4.out hhb (by rw [← HPP.out]; exact HK.out)⟩, HW5, HF5⟩
        · have hd : decide (cmpv (x.1 : Int) (y.1 : Int) < 0) = false := by rw [decide_eq_false_iff_not, cmpv_lt]; exact hk2
          have HK : Hd (ky (d h) ≤ ky (d p)) := ⟨by rw [← HX.out, ← HY.out]; unfold ky; omega⟩
          go_region_held3 (fun w' => w'.cell? ⟨g, p * 3, none⟩ = some (.int .i64 x.1) ∧ w'.cell? ⟨g, p * 3 + 1, none⟩ = some (.int .i64 x.2) ∧ w'.cell? ⟨g, p * 3 + 2, none⟩ = some (.slice none 0 0) ∧ w'.cell? ⟨g, h * 3, none⟩ = some (.int .i64 y.1) ∧ w'.cell? ⟨g, h * 3 + 1, none⟩ = some (.int .i64 y.2) ∧ w'.cell? ⟨g, h * 3 + 2, none⟩ = some (.slice none 0 0)) (go_keep)
            (first | (go_at_call 102; refine (less_any _ x y).mono ?_; rintro e w5 ⟨rfl, q5⟩; have k0 := Fr.cellAt q5 (by simp) ca0; have k1 := Fr.cellAt q5 (by simp) ca1; have k2 := Fr.cellAt q5 (by simp) ca2; have l0 := Fr.cellAt q5 (by simp) cb0; have l1 := Fr.cellAt q5 (by simp) cb1; have l2 := Fr.cellAt q5 (by simp) cb2; have Q5 := Hd.mk q5; clear q5))
          clear ca0 ca1 ca2 cb0 cb1 cb2 k0 k1 k2 l0 l1 l2 n0 n1 n3 n5 n7 n9
          have HW5 := Hd.mk (HW.out.frame Q5.out.ofDrew (by simp))
          have HF5 := Hd.mk (HF.out.trans Q5.out.ofDrew (by simp))
          go_wp2
          go_roundg (gk - 1)
          case measure => go_light; omega
          case rel => exact ⟨h + 1, r, by go_num, rfl, by omega, by omega, by omega, by omega, ⟨HSK.out.up HS1.out HS2.out p1 p3 HP4.out hhb (by rw [← HPP.out]; exact Int.not_lt.2 HK.out)⟩, HW5, HF5⟩
      · obtain rfl : s = r := by omega
        have hcp : Cutp ky d a m b s := Seek.cut h1 h2 HS1.out HS2.out (by rw [← HLO.out, ← HHI.out, ← HMID.out]; exact HSK.out)
        have hbd := hcp.bd
        have hhv := hcp.halves HS1.out HS2.out HL.out
        rw [← HMID.out] at hbd hhv
        obtain ⟨en, hen⟩ : ∃ en, en = mid + m - s := ⟨_, rfl⟩
        rw [← hen] at hbd hhv
        have HHV := Hd.mk hhv
        have hev : (mid : Int) + (m : Int) - (s : Int) = ((en : Nat) : Int) := by omega
        obtain ⟨b1, b2, b3, b4, b5⟩ := hbd
        have b6 : s ≤ mid := by omega
        have b7 : mid ≤ en := by omega
        clear hcp hhv hen
        go_upto_region 39 with (fail)
        go_cut [185] from 178 to 185 (fun sv wc => sv = .bool (decide (s < m ∧ m < en)) ∧ wr = wc)
        case first =>
          by_cases q1 : s < m
          · by_cases q2 : m < en
            · have q3 : Hd (decide (s < m ∧ m < en) = true) := ⟨decide_eq_true ⟨q1, q2⟩⟩
              go_wp2
              go_meet
              case rel => exact ⟨by rw [q3.out], rfl⟩
            · have q3 : Hd (decide (s < m ∧ m < en) = false) := ⟨decide_eq_false fun h => q2 h.2⟩
              go_wp2
              go_meet
              case rel => exact ⟨by rw [q3.out], rfl⟩
          · have q3 : Hd (decide (s < m ∧ m < en) = false) := ⟨decide_eq_false fun h => q1 h.1⟩
            go_wp2
            go_meet
            case rel => exact ⟨by rw [q3.out], rfl⟩
        case rest =>
        obtain ⟨rfl, rfl⟩ := hcut
        go_upto_if 185 with (fail)
        clear hev
        go_cut [] from 178 to 191 (fun wc => Hd (Ch n s en d (rot d s m en)) ∧ Hd (Rw wc g n (rot d s m en)) ∧ Hd (Fr w wc [g]))
        case first =>
          by_cases q1 : s < m ∧ m < en
          · have q3 : decide (s < m ∧ m < en) = true := decide_eq_true q1
            go_wp2_with (fail)
            refine (rotate_any wr g n c d s m en _ HW.out hn hnc q1.1 q1.2 (by omega)).mono ?_
            rintro e w1 ⟨rfl, r1, r3, r2⟩
            have R1 := Hd.mk r1
            have R3 := Hd.mk r3
            have R2 := Hd.mk (HF.out.trans r2 (by simp))
            clear r1 r2 r3
            go_wp2
            go_meet
            case rel => exact ⟨R3, R1, R2⟩
          · have q3 : decide (s < m ∧ m < en) = false := decide_eq_false q1
            go_wp2
            go_meet
            case rel => rw [rot_none d b2 b4 q1]; exact ⟨⟨Ch.refl _ _ _ _⟩, HW, HF⟩
        case rest =>
        obtain ⟨HC1, HW1, HF1⟩ := hcut
        obtain ⟨w1, rfl⟩ : ∃ w1, w1 = wc := ⟨_, rfl⟩
        obtain ⟨d1, hd1⟩ : ∃ d1, d1 = rot d s m en := ⟨_, rfl⟩
        rw [← hd1] at HC1 HW1 HHV
        clear hd1
        go_upto_region 41 with (fail)
        go_cut [199] from 192 to 199 (fun sv wc => sv = .bool (decide (a < s ∧ s < mid)) ∧ w1 = wc)
        case first =>
          by_cases q1 : a < s
          · by_cases q2 : s < mid
            · have q3 : Hd (decide (a < s ∧ s < mid) = true) := ⟨decide_eq_true ⟨q1, q2⟩⟩
              go_wp2
              go_meet
              case rel => exact ⟨by rw [q3.out], rfl⟩
            · have q3 : Hd (decide (a < s ∧ s < mid) = false) := ⟨decide_eq_false fun h => q2 h.2⟩
              go_wp2
              go_meet
              case rel => exact ⟨by rw [q3.out], rfl⟩
          · have q3 : Hd (decide (a < s ∧ s < mid) = false) := ⟨decide_eq_false fun h => q1 h.1⟩
            go_wp2
            go_meet
            case rel => exact ⟨by rw [q3.out], rfl⟩
        case rest =>
        obtain ⟨rfl, rfl⟩ := hcut
        go_upto_if 199 with (fail)
        go_cut [] from 192 to 205 (fun wc => ∃ d2, Hd (Ch n a mid d1 d2) ∧ Hd (Srt ky rk d2 a mid) ∧ Hd (Rw wc g n d2) ∧ Hd (Fr w wc [g]))
        case first =>
          by_cases q1 : a < s ∧ s < mid
          · have q3 : decide (a < s ∧ s < mid) = true := decide_eq_true q1
            go_wp2_with (fail)
            refine (HIH.out w1 d1 a s mid (by omega) HW1.out q1.1 q1.2 (by omega) HHV.out.s1 HHV.out.s2 HHV.out.l1).mono ?_
            rintro e w2 ⟨rfl, ⟨d2, r1, r2, r3⟩, r4⟩
            have R1 := Hd.mk r1
            have R2 := Hd.mk r2
            have R3 := Hd.mk r3
            have R4 := Hd.mk (HF1.out.trans r4 (by simp))
            clear r1 r2 r3 r4
            go_wp2
            go_meet
            case rel => exact ⟨d2, R2, R3, R1, R4⟩
          · have q3 : decide (a < s ∧ s < mid) = false := decide_eq_false q1
            have q4 : Hd (Srt ky rk d1 a mid) := ⟨by
              rcases (show s = a ∨ s = mid by omega) with q5 | q5
              · have := HHV.out.s2; rw [q5] at this; exact this
              · have := HHV.out.s1; rw [q5] at this; exact this⟩
            go_wp2
            go_meet
            case rel => exact ⟨d1, ⟨Ch.refl _ _ _ _⟩, q4, HW1, HF1⟩
        case rest =>
        obtain ⟨d2, HC2, HT2, HW2, HF2⟩ := hcut
        obtain ⟨w2, rfl⟩ : ∃ w2, w2 = wc := ⟨_, rfl⟩
        have HE3 : Hd (Srt ky rk d2 mid en ∧ Srt ky rk d2 en b ∧ Lo rk d2 mid en b) := ⟨by
          have o : ∀ k, mid ≤ k → d2 k = d1 k := fun k hk => HC2.out.out k (by omega)
          refine ⟨fun i j a1 a2 a3 => ?_, fun i j a1 a2 a3 => ?_, fun i j a1 a2 a3 a4 => ?_⟩
          · rw [o i (by omega), o j (by omega)]; exact HHV.out.s3 i j a1 a2 a3
          · rw [o i (by omega), o j (by omega)]; exact HHV.out.s4 i j a1 a2 a3
          · rw [o i (by omega), o j (by omega)]; exact HHV.out.l2 i j a1 a2 a3 a4⟩
        go_upto_region 43 with (fail)
        go_cut [213] from 206 to 213 (fun sv wc => sv = .bool (decide (mid < en ∧ en < b)) ∧ w2 = wc)
        case first =>
          by_cases q1 : mid < en
          · by_cases q2 : en < b
            · have q3 : Hd (decide (mid < en ∧ en < b) = true) := ⟨decide_eq_true ⟨q1, q2⟩⟩
              go_wp2
              go_meet
              case rel => exact ⟨by rw [q3.out], rfl⟩
            · have q3 : Hd (decide (mid < en ∧ en < b) = false) := ⟨decide_eq_false fun h => q2 h.2⟩
              go_wp2
              go_meet
              case rel => exact ⟨by rw [q3.out], rfl⟩
          · have q3 : Hd (decide (mid < en ∧ en < b) = false) := ⟨decide_eq_false fun h => q1 h.1⟩
            go_wp2
            go_meet
            case rel => exact ⟨by rw [q3.out], rfl⟩
        case rest =>
        obtain ⟨rfl, rfl⟩ := hcut
        go_upto_if 213 with (fail)
        by_cases q1 : mid < en ∧ en < b
        · have q3 : decide (mid < en ∧ en < b) = true := decide_eq_true q1
          go_wp2_with (fail)
          refine (HIH.out w2 d2 mid en b (by omega) HW2.out q1.1 q1.2 (by omega) HE3.out.1 HE3.out.2.1 HE3.out.2.2).mono ?_
          rintro e w3 ⟨rfl, ⟨d3, r1, r2, r3⟩, r4⟩
          have R1 := Hd.mk r1
          have R2 := Hd.mk r2
          have R3 := Hd.mk r3
          have R4 := Hd.mk (HF2.out.trans r4 (by simp))
          clear r1 r2 r3 r4
          go_wp2
          go_end0
          have hj := HHV.out.join (n := n) (by omega) (by omega) HC2.out HT2.out R2.out R3.out
          exact ⟨rfl, ⟨d3, R1.out, (HC1.out.wide b1 b5).trans hj.1, hj.2⟩, R4.out⟩
        · have q3 : decide (mid < en ∧ en < b) = false := decide_eq_false q1
          have q4 : Hd (Srt ky rk d2 mid b) := ⟨by
            rcases (show en = mid ∨ en = b by omega) with q5 | q5
            · have := HE3.out.2.1; rw [q5] at this; exact this
            · have := HE3.out.1; rw [q5] at this; exact this⟩
          go_wp2
          go_end0
          have hj := HHV.out.join (n := n) (by omega) (by omega) HC2.out HT2.out (Ch.refl _ _ _ _) q4.out
          exact ⟨rfl, ⟨d2, HW2.out, (HC1.out.wide b1 b5).trans hj.1, hj.2⟩, HF2.out⟩
end Go.Proofs.Ytofajcifjmhomaa.Sort
