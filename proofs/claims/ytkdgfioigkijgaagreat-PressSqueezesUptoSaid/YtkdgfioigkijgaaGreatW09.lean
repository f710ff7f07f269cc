import Derived.Test.YtkdgfioigkijgaaGreatW01
import Derived.Test.YtkdgfioigkijgaaGreatW02
import Derived.Test.YtkdgfioigkijgaaGreatW04
import Derived.Test.YtkdgfioigkijgaaGreatW08
import Derived.Deep.CutRange
import Derived.Deep.Light
import Derived.Deep.RegionHeld3
set_option linter.unusedVariables false
set_option linter.unusedSimpArgs false
set_option maxRecDepth 100000
namespace Go.Proofs.YtkdgfioigkijgaaGreat.Sort
open Go.RowKit Go.Proofs.YtkdgfioigkijgaaGreat.Lib Go.Proofs.YtkdgfioigkijgaaGreat.Ints Go.Proofs.YtkdgfioigkijgaaGreat.Sorts
def Merged (w : World) (g n : Nat) (d : Nat → Nat × Nat) (a b : Nat) (e : Ending) (w' : World) : Prop :=
  e = .returned (.tuple #[]) ∧ (∃ d', Rw w' g n d' ∧ Ch n a b d d' ∧ Srt ky rk d' a b) ∧ Fr w w' [g]
set_option maxHeartbeats 4000000 in
theorem merge_any (g n c : Nat) (hn : n ≤ 1099511627776) (hnc : n ≤ c) : ∀ (L : Nat) (w : World) (d : Nat → Nat × Nat) (a m b : Nat), b - a ≤ L → Rw w g n d → a < m → m < b → b ≤ n → Srt ky rk d a m → Srt ky rk d m b → Lo rk d a m b →
    Calls Tryz.prog 206 #[.slice (some ⟨g, 0, none⟩) n c, .int .i64 (a : Nat), .int .i64 (m : Nat), .int .i64 (b : Nat), lfn] w (Merged w g n d a b) := by
  intro L
  induction L with
  | zero => intro w d a m b h0 hR h1 h2; omega
  | succ L ih =>
    intro w d a m b h0 hR h1 h2 h3 hs1 hs2 hlo
    by_cases hm : m = a + 1
    · subst hm
      exact merge_first w g n c d a (a + 1) b rfl hR hn hnc h2 h3 hs2 hlo
    by_cases hb : b = m + 1
    · subst hb
      exact merge_last w g n c d a m (m + 1) rfl hR hn hnc (by omega) h3 hs1 hlo
    have HIH := Hd.mk ih
    have HR := Hd.mk hR
    have HS1 := Hd.mk hs1
    have HS2 := Hd.mk hs2
    have HL := Hd.mk hlo
    clear ih hR hs1 hs2 hlo
    obtain ⟨mid, hmid⟩ : ∃ mid, mid = (a + b) / 2 := ⟨_, rfl⟩
    have hmb : a < mid ∧ mid < b := by omega
    have e0 : (((m : Int) - (a : Int) == 1)) = false := by simp; omega
    have e3 : (((b : Int) - (m : Int) == 1)) = false := by simp; omega
    have HMID := Hd.mk hmid
    unfold lfn
    go_enter Tryz.func206, Tryz.ntmps206
    go_upto_if 140 with (fail)
    rw [show ((a : Int) + (b : Int)) / 2 = ((mid : Nat) : Int) from by omega]
    clear hmid
    obtain ⟨lo, hlo⟩ : ∃ lo, lo = lo0 a m b := ⟨_, rfl⟩
    obtain ⟨hi, hhi⟩ : ∃ hi, hi = hi0 a m b := ⟨_, rfl⟩
    have HLO := Hd.mk hlo
    have HHI := Hd.mk hhi
    have hends := ends0 h1 h2
    rw [← hlo, ← hhi, ← HMID.out] at hends
    obtain ⟨p1, p2, p3, p4⟩ := hends
    have HP4 := Hd.mk p4
    clear p4 hlo hhi
    go_cut [20, 21] from 138 to 146 (fun s r wc => s = .int .i64 (lo : Nat) ∧ r = .int .i64 (hi : Nat) ∧ w = wc)
    case first =>
      by_cases hmm : mid < m
      · have q1 : lo = mid + m - b := by rw [HLO.out]; unfold lo0; rw [← HMID.out, if_pos hmm]
        have q2 : hi = mid := by rw [HHI.out]; unfold hi0; rw [← HMID.out, if_pos hmm]
        have Q1 := Hd.mk q1
        have Q2 := Hd.mk q2
        clear q1 q2
        go_wp2
        go_meet
        case rel => have := Q1.out; have := Q2.out; have := HMID.out; exact ⟨by congr 1; omega, by congr 1; omega, rfl⟩
      · have q1 : lo = a := by rw [HLO.out]; unfold lo0; rw [← HMID.out, if_neg hmm]
        have q2 : hi = m := by rw [HHI.out]; unfold hi0; rw [← HMID.out, if_neg hmm]
        have Q1 := Hd.mk q1
        have Q2 := Hd.mk q2
        clear q1 q2
        go_wp2
        go_meet
        case rel => have := Q1.out; have := Q2.out; have := HMID.out; exact ⟨by congr 1; omega, by congr 1; omega, rfl⟩
    case rest =>
    obtain ⟨rfl, rfl, rfl⟩ := hcut
    go_wp2
    go_loopg [20, 21] (hi - lo) (fun kq sv rv wr => ∃ (s r : Nat), sv = .int .i64 (s : Nat) ∧ rv = .int .i64 (r : Nat) ∧ lo ≤ s ∧ s ≤ r ∧ r ≤ hi ∧ r - s ≤ kq ∧ Hd (Seek ky d (mid + m - 1) lo hi s r) ∧ Hd (Rw wr g n d) ∧ Hd (Fr w wr [g]))
    case atStart => exact ⟨lo, hi, rfl, rfl, by omega, by omega, by omega, by omega, ⟨Seek.start d p2⟩, HR, ⟨Fr.refl _ _⟩⟩
    case round =>
      obtain ⟨s, r, rfl, rfl, hs1, hs2, hs3, hk, HSK, HW, HF⟩ := hrel
      by_cases hlt : s < r
      · obtain ⟨h, hh⟩ : ∃ h, h = (s + r) / 2 := ⟨_, rfl⟩
        go_upto_region 35 with (fail)
        rw [show ((s : Int) + (r : Int)) / 2 = ((h : Nat) : Int) from by omega]
        have hhb : s ≤ h ∧ h < r := by omega
        have h4 := HP4.out h (by omega) (by omega)
        obtain ⟨p, hp⟩ : ∃ p, p = mid + m - 1 - h := ⟨_, rfl⟩
        have HPP := Hd.mk hp
        rw [← hp] at h4
        have ca0 := HW.out.cell (i := p) (j := 0) (by omega) (by decide)
        have ca1 := HW.out.cell (i := p) (j := 1) (by omega) (by decide)
        have ca2 := HW.out.cell (i := p) (j := 2) (by omega) (by decide)
        have cb0 := HW.out.cell (i := h) (j := 0) (by omega) (by decide)
        have cb1 := HW.out.cell (i := h) (j := 1) (by omega) (by decide)
        have cb2 := HW.out.cell (i := h) (j := 2) (by omega) (by decide)
        obtain ⟨x, hx⟩ : ∃ x, x = d p := ⟨_, rfl⟩
        obtain ⟨y, hy⟩ : ∃ y, y = d h := ⟨_, rfl⟩
        rw [← hx] at ca0 ca1 ca2
        rw [← hy] at cb0 cb1 cb2
        have HX := Hd.mk hx
        have HY := Hd.mk hy
        clear hx hy hh
        simp only [lfc, List.getElem?_cons_zero, List.getElem?_cons_succ, Nat.add_zero] at ca0 ca1 ca2 cb0 cb1 cb2
        have n1 : ((mid : Int) + (m : Int) - 1 - (h : Int)).toNat = p := by omega
        have n3 : IntKind.i64.wrap ((mid : Int) + (m : Int) - 1 - (h : Int)) = (mid : Int) + (m : Int) - 1 - (h : Int) := IntWalk.i64_in _ (by omega)
        have n5 : (0 : Int) ≤ (mid : Int) + (m : Int) - 1 - (h : Int) := by omega
        have n7 : ((mid : Int) + (m : Int) - 1 - (h : Int)) < n := by omega
        have n9 : (h : Int) < n := by omega
        have n0 : (h : Int) ≤ (mid : Int) + (m : Int) - 1 := by omega
        clear hp
        by_cases hk2 : x.1 < y.1
        · have hd : decide (cmpv (x.1 : Int) (y.1 : Int) < 0) = true := by rw [decide_eq_true_eq, cmpv_lt]; exact hk2
          have HK : Hd (ky (d p) < ky (d h)) := ⟨by rw [← HX.out, ← HY.out]; unfold ky; omega⟩
          go_region_held3 (fun w' => w'.cell? ⟨g, p * 3, none⟩ = some (.int .i64 x.1) ∧ w'.cell? ⟨g, p * 3 + 1, none⟩ = some (.int .i64 x.2) ∧ w'.cell? ⟨g, p * 3 + 2, none⟩ = some (.slice none 0 0) ∧ w'.cell? ⟨g, h * 3, none⟩ = some (.int .i64 y.1) ∧ w'.cell? ⟨g, h * 3 + 1, none⟩ = some (.int .i64 y.2) ∧ w'.cell? ⟨g, h * 3 + 2, none⟩ = some (.slice none 0 0)) (go_keep)
            (first | (go_at_call 197; refine (less_any _ x y).mono ?_; rintro e w5 ⟨rfl, q5⟩; have k0 := Fr.cellAt q5 (by simp) ca0; have k1 := Fr.cellAt q5 (by simp) ca1; have k2 := Fr.cellAt q5 (by simp) ca2; have l0 := Fr.cellAt q5 (by simp) cb0; have l1 := Fr.cellAt q5 (by simp) cb1; have l2 := Fr.cellAt q5 (by simp) cb2; have Q5 := Hd.mk q5; clear q5))
          clear ca0 ca1 ca2 cb0 cb1 cb2 k0 k1 k2 l0 l1 l2 n0 n1 n3 n5 n7 n9
          have HW5 := Hd.mk (HW.out.frame Q5.out.ofDrew (by simp))
          have HF5 := Hd.mk (HF.out.trans Q5.out.ofDrew (by simp))
          go_wp2
          go_roundg (gk - 1)
          case measure => go_light; omega
          case rel => exact ⟨s, h, rfl, rfl, by omega, by omega, by omega, by omega, ⟨HSK.out.down HS1.out HS2.out p1 p3 HP4.out hhb (by rw [← HPP.out]; exact HK.out)⟩, HW5, HF5⟩
        · have hd : decide (cmpv (x.1 : Int) (y.1 : Int) < 0) = false := by rw [decide_eq_false_iff_not, cmpv_lt]; exact hk2
          have HK : Hd (ky (d h) ≤ ky (d p)) := ⟨by rw [← HX.out, ← HY.out]; unfold ky; omega⟩
          go_region_held3 (fun w' => w'.cell? ⟨g, p * 3, none⟩ = some (.int .i64 x.1) ∧ w'.cell? ⟨g, p * 3 + 1, none⟩ = some (.int .i64 x.2) ∧ w'.cell? ⟨g, p * 3 + 2, none⟩ = some (.slice none 0 0) ∧ w'.cell? ⟨g, h * 3, none⟩ = some (.int .i64 y.1) ∧ w'.cell? ⟨g, h * 3 + 1, none⟩ = some (.int .i64 y.2) ∧ w'.cell? ⟨g, h * 3 + 2, none⟩ = some (.slice none 0 0)) (go_keep)
            (first | (go_at_call 197; refine (less_any _ x y).mono ?_; rintro e w5 ⟨rfl, q5⟩; have k0 := Fr.cellAt q5 (by simp) ca0; have k1 := Fr.cellAt q5 (by simp) ca1; have k2 := Fr.cellAt q5 (by simp) ca2; have l0 := Fr.cellAt q5 (by simp) cb0; have l1 := Fr.cellAt q5 (by simp) cb1; have l2 := Fr.cellAt q5 (by simp) cb2; have Q5 := Hd.mk q5; clear q5))
          clear ca0 ca1 ca2 cb0 cb1 cb2 k0 k1 k2 l0 l1 l2 n0 n1 n3 n5 n7 n9
          have HW5 := Hd.mk (HW.out.frame Q5.out.ofDrew (by simp))
          have HF5 := Hd.mk (HF.out.trans Q5.out.ofDrew (by simp))
          go_wp2
          go_roundg (gk - 1)
          case measure => go_light; omega
          case rel => exact ⟨h + 1, r, by go_num, rfl, by omega, by omega, by omega, by omega, ⟨HSK.out.up HS1.out HS2.out p1 p3 HP4.out hhb (by rw [← HPP.out]; exact Int.not_lt.2 HK.out)⟩, HW5, HF5⟩
      · obtain rfl : s = r := by omega
        have hcp : Cutp ky d a m b s := Seek.cut h1 h2 HS1.out HS2.out (by rw [← HLO.out, ← HHI.out, ← HMID.out]; exact HSK.out)
        have hbd := hcp.bd
        have hhv := hcp.halves HS1.out HS2.out HL.out
        rw [← HMID.out] at hbd hhv
        obtain ⟨en, hen⟩ : ∃ en, en = mid + m - s := ⟨_, rfl⟩
        rw [← hen] at hbd hhv
        have HHV := Hd.mk hhv
        have hev : (mid : Int) + (m : Int) - (s : Int) = ((en : Nat) : Int) := by omega
        obtain ⟨b1, b2, b3, b4, b5⟩ := hbd
        have b6 : s ≤ mid := by omega
        have b7 : mid ≤ en := by omega
        clear hcp hhv hen
        go_upto_region 39 with (fail)
        go_cut [185] from 178 to 185 (fun sv wc => sv = .bool (decide (s < m ∧ m < en)) ∧ wr = wc)
        case first =>
          by_cases q1 : s < m
          · by_cases q2 : m < en
            · have q3 : Hd (decide (s < m ∧ m < en) = true) := ⟨decide_eq_true ⟨q1, q2⟩⟩
              go_wp2
              go_meet
              case rel => exact ⟨by rw [q3.out], rfl⟩
            · have q3 : Hd (decide (s < m ∧ m < en) = false) := ⟨decide_eq_false fun h => q2 h.2⟩
              go_wp2
              go_meet
              case rel => exact ⟨by rw [q3.out], rfl⟩
          · have q3 : Hd (decide (s < m ∧ m < en) = false) := ⟨decide_eq_false fun h => q1 h.1⟩
            go_wp2
            go_meet
            case rel => exact ⟨by rw [q3.out], rfl⟩
        case rest =>
        obtain ⟨rfl, rfl⟩ := hcut
        go_upto_if 185 with (fail)
        clear hev
        go_cut [] from 178 to 191 (fun wc => Hd (Ch n s en d (rot d s m en)) ∧ Hd (Rw wc g n (rot d s m en)) ∧ Hd (Fr w wc [g]))
        case first =>
          by_cases q1 : s < m ∧ m < en
          · have q3 : decide (s < m ∧ m < en) = true := decide_eq_true q1
            go_wp2_with (fail)
            refine (rotate_any wr g n c d s m en _ HW.out hn hnc q1.1 q1.2 (by omega)).mono ?_
            rintro e w1 ⟨rfl, r1, r3, r2⟩
            have R1 := Hd.mk r1
            have R3 := Hd.mk r3
            have R2 := Hd.mk (HF.out.trans r2 (by simp))
            clear r1 r2 r3
            go_wp2
            go_meet
            case rel => exact ⟨R3, R1, R2⟩
          · have q3 : decide (s < m ∧ m < en) = false := decide_eq_false q1
            go_wp2
            go_meet
            case rel => rw [rot_none d b2 b4 q1]; exact ⟨⟨Ch.refl _ _ _ _⟩, HW, HF⟩
        case rest =>
        obtain ⟨HC1, HW1, HF1⟩ := hcut
        obtain ⟨w1, rfl⟩ : ∃ w1, w1 = wc := ⟨_, rfl⟩
        obtain ⟨d1, hd1⟩ : ∃ d1, d1 = rot d s m en := ⟨_, rfl⟩
        rw [← hd1] at HC1 HW1 HHV
        clear hd1
        go_upto_region 41 with (fail)
        go_cut [199] from 192 to 199 (fun sv wc => sv = .bool (decide (a < s ∧ s < mid)) ∧ w1 = wc)
        case first =>
          by_cases q1 : a < s
          · by_cases q2 : s < mid
            · have q3 : Hd (decide (a < s ∧ s < mid) = true) := ⟨decide_eq_true ⟨q1, q2⟩⟩
              go_wp2
              go_meet
              case rel => exact ⟨by rw [q3.out], rfl⟩
            · have q3 : Hd (decide (a < s ∧ s < mid) = false) := ⟨decide_eq_false fun h => q2 h.2⟩
              go_wp2
              go_meet
              case rel => exact ⟨by rw [q3.out], rfl⟩
          · have q3 : Hd (decide (a < s ∧ s < mid) = false) := ⟨decide_eq_false fun h => q1 h.1⟩
            go_wp2
            go_meet
            case rel => exact ⟨by rw [q3.out], rfl⟩
        case rest =>
        obtain ⟨rfl, rfl⟩ := hcut
        go_upto_if 199 with (fail)
        go_cut [] from 192 to 205 (fun wc => ∃ d2, Hd (Ch n a mid d1 d2) ∧ Hd (Srt ky rk d2 a mid) ∧ Hd (Rw wc g n d2) ∧ Hd (Fr w wc [g]))
        case first =>
          by_cases q1 : a < s ∧ s < mid
          · have q3 : decide (a < s ∧ s < mid) = true := decide_eq_true q1
            go_wp2_with (fail)
            refine (HIH.out w1 d1 a s mid (by omega) HW1.out q1.1 q1.2 (by omega) HHV.out.s1 HHV.out.s2 HHV.out.l1).mono ?_
            rintro e w2 ⟨rfl, ⟨d2, r1, r2, r3⟩, r4⟩
            have R1 := Hd.mk r1
            have R2 := Hd.mk r2
            have R3 := Hd.mk r3
            have R4 := Hd.mk (HF1.out.trans r4 (by simp))
            clear r1 r2 r3 r4
            go_wp2
            go_meet
            case rel => exact ⟨d2, R2, R3, R1, R4⟩
          · have q3 : decide (a < s ∧ s < mid) = false := decide_eq_false q1
            have q4 : Hd (Srt ky rk d1 a mid) := ⟨by
              rcases (show s = a ∨ s = mid by omega) with q5 | q5
              · have := HHV.out.s2; rw [q5] at this; exact this
              · have := HHV.out.s1; rw [q5] at this; exact this⟩
            go_wp2
            go_meet
            case rel => exact ⟨d1, ⟨Ch.refl _ _ _ _⟩, q4, HW1, HF1⟩
        case rest =>
        obtain ⟨d2, HC2, HT2, HW2, HF2⟩ := hcut
        obtain ⟨w2, rfl⟩ : ∃ w2, w2 = wc := ⟨_, rfl⟩
        have HE3 : Hd (Srt ky rk d2 mid en ∧ Srt ky rk d2 en b ∧ Lo rk d2 mid en b) := ⟨by
          have o : ∀ k, mid ≤ k → d2 k = d1 k := fun k hk => HC2.out.out k (by omega)
          refine ⟨fun i j a1 a2 a3 => ?_, fun i j a1 a2 a3 => ?_, fun i j a1 a2 a3 a4 => ?_⟩
          · rw [o i (by omega), o j (by omega)]; exact HHV.out.s3 i j a1 a2 a3
          · rw [o i (by omega), o j (by omega)]; exact HHV.out.s4 i j a1 a2 a3
          · rw [o i (by omega), o j (by omega)]; exact HHV.out.l2 i j a1 a2 a3 a4⟩
        go_upto_region 43 with (fail)
        go_cut [213] from 206 to 213 (fun sv wc => sv = .bool (decide (mid < en ∧ en < b)) ∧ w2 = wc)
        case first =>
          by_cases q1 : mid < en
          · by_cases q2 : en < b
            · have q3 : Hd (decide (mid < en ∧ en < b) = true) := ⟨decide_eq_true ⟨q1, q2⟩⟩
              go_wp2
              go_meet
              case rel => exact ⟨by rw [q3.out], rfl⟩
            · have q3 : Hd (decide (mid < en ∧ en < b) = false) := ⟨decide_eq_false fun h => q2 h.2⟩
              go_wp2
              go_meet
              case rel => exact ⟨by rw [q3.out], rfl⟩
          · have q3 : Hd (decide (mid < en ∧ en < b) = false) := ⟨decide_eq_false fun h => q1 h.1⟩
            go_wp2
            go_meet
            case rel => exact ⟨by rw [q3.out], rfl⟩
        case rest =>
        obtain ⟨rfl, rfl⟩ := hcut
        go_upto_if 213 with (fail)
        by_cases q1 : mid < en ∧ en < b
        · have q3 : decide (mid < en ∧ en < b) = true := decide_eq_true q1
          go_wp2_with (fail)
          refine (HIH.out w2 d2 mid en b (by omega) HW2.out q1.1 q1.2 (by omega) HE3.out.1 HE3.out.2.1 HE3.out.2.2).mono ?_
          rintro e w3 ⟨rfl, ⟨d3, r1, r2, r3⟩, r4⟩
          have R1 := Hd.mk r1
          have R2 := Hd.mk r2
          have R3 := Hd.mk r3
          have R4 := Hd.mk (HF2.out.trans r4 (by simp))
          clear r1 r2 r3 r4
          go_wp2
          go_end0
          have hj := HHV.out.join (n := n) (by omega) (by omega) HC2.out HT2.out R2.out R3.out
          exact ⟨rfl, ⟨d3, R1.out, (HC1.out.wide b1 b5).trans hj.1, hj.2⟩, R4.out⟩
        · have q3 : decide (mid < en ∧ en < b) = false := decide_eq_false q1
          have q4 : Hd (Srt ky rk d2 mid b) := ⟨by
            rcases (show en = mid ∨ en = b by omega) with q5 | q5
            · have := HE3.out.2.1; rw [q5] at this; exact this
            · have := HE3.out.1; rw [q5] at this; exact this⟩
          go_wp2
          go_end0
          have hj := HHV.out.join (n := n) (by omega) (by omega) HC2.out HT2.out (Ch.refl _ _ _ _) q4.out
          exact ⟨rfl, ⟨d2, HW2.out, (HC1.out.wide b1 b5).trans hj.1, hj.2⟩, HF2.out⟩
end Go.Proofs.YtkdgfioigkijgaaGreat.Sort
set_option linter.unusedVariables false
set_option linter.unusedSimpArgs false
set_option maxRecDepth 100000
namespace Go.Proofs.YtkdgfioigkijgaaGreat.Sort
open Go.RowKit Go.Proofs.YtkdgfioigkijgaaGreat.Lib Go.Proofs.YtkdgfioigkijgaaGreat.Ints Go.Proofs.YtkdgfioigkijgaaGreat.Sorts
set_option maxHeartbeats 4000000 in
theorem stable_any (w : World) (g n c : Nat) (d : Nat → Nat × Nat) (hR : Rw w g n d) (hn : n ≤ 1099511627776) (hnc : n ≤ c) (hinc : ∀ i j, i < j → j < n → rk (d i) < rk (d j)) :
    Calls Tryz.prog 202 #[.slice (some ⟨g, 0, none⟩) n c, .int .i64 (n : Nat), lfn] w fun e w' => e = .returned (.tuple #[]) ∧ (∃ d', Rw w' g n d' ∧ (lst n d').Perm (lst n d) ∧ Srt ky rk d' 0 n) ∧ Fr w w' [g] := by
  have HR := Hd.mk hR
  have HI := Hd.mk hinc
  clear hR hinc
  unfold lfn
  go_enter Tryz.func202, Tryz.ntmps202
  go_wp2
  go_loopg [7, 8] n (fun kq av bv wr => ∃ (k : Nat) (d' : Nat → Nat × Nat), av = .int .i64 ((k * 20 : Nat) : Int) ∧ bv = .int .i64 ((k * 20 + 20 : Nat) : Int) ∧ k * 20 ≤ n ∧ n - k * 20 ≤ kq ∧ Hd (Mix ky rk n 1 20 (k * 20) d d') ∧ Hd (Rw wr g n d') ∧ Hd (Fr w wr [g]))
  case atStart => exact ⟨0, d, rfl, rfl, by omega, by omega, ⟨by simpa using Mix.start n 20 d⟩, HR, ⟨Fr.refl _ _⟩⟩
  case round =>
    obtain ⟨k, d1, rfl, rfl, hka, hkk, HM, HW, HF⟩ := hrel
    have HINC : Hd (∀ p q, k * 20 ≤ p → p < q → q < n → rk (d1 p) < rk (d1 q)) := ⟨fun p q e1 e2 e3 => by
      obtain ⟨x, x1, x2, x3⟩ := HM.out.ow2 p (by omega) e1
      obtain ⟨y, y1, y2, y3⟩ := HM.out.ow2 q e3 (by omega)
      rw [x3, y3]
      simp only [Nat.div_one] at x2 y2
      exact HI.out x y (by omega) y1⟩
    obtain ⟨a, ha⟩ : ∃ a, a = k * 20 := ⟨_, rfl⟩
    obtain ⟨b, hb⟩ : ∃ b, b = k * 20 + 20 := ⟨_, rfl⟩
    have HA := Hd.mk ha
    have HB := Hd.mk hb
    have hab : b ≤ a + 20 ∧ a + 20 ≤ b := by omega
    rw [← hb, ← ha]
    rw [← ha] at hka hkk HM HINC
    clear ha hb
    by_cases hlt : b ≤ n
    · go_wp2_with (fail)
      refine (insertion_any wr g n c d1 a b HW.out hn hnc (by omega) hlt (fun p q e1 e2 e3 => HINC.out p q e1 e2 (by omega))).mono ?_
      rintro e w1 ⟨rfl, ⟨d2, r1, r2, r3⟩, r4⟩
      have R1 := Hd.mk r1
      have R4 := Hd.mk (HF.out.trans r4 (by simp))
      have R2 : Hd (Mix ky rk n 1 20 b d d2) := ⟨by
        have := HM.out
        rw [HA.out] at this r2 r3
        exact this.step (by omega) (fun i j e => by simp only [Nat.div_one] at e; rw [e]) r2 r3 hlt (by rw [HB.out]; omega) (by rw [HB.out]; omega) (.inl (by rw [HB.out]))⟩
      clear r1 r2 r3 r4
      go_wp2
      go_roundg (gk - 1)
      case measure => go_light; omega
      case rel =>
        go_light
        have h1 := HA.out
        have h2 := HB.out
        have h3 : b = (k + 1) * 20 := by omega
        exact ⟨k + 1, d2, by rw [← h3], by first | rfl | (congr 1; omega), by omega, by omega, by rw [← h3]; exact R2, R1, R4⟩
    · go_wp2_with (fail)
      refine (insertion_any wr g n c d1 a n HW.out hn hnc (by omega) (Nat.le_refl _) HINC.out).mono ?_
      rintro e w1 ⟨rfl, ⟨d2, r1, r2, r3⟩, r4⟩
      have R1 := Hd.mk r1
      have R4 := Hd.mk (HF.out.trans r4 (by simp))
      have R2 : Hd (Mix ky rk n 20 40 0 d d2) := ⟨by
        have := HM.out
        rw [HA.out] at this r2 r3
        exact (this.step (by omega) (fun i j e => by simp only [Nat.div_one] at e; rw [e]) r2 r3 (Nat.le_refl _) (by have := HA.out; have := HB.out; omega) (by have := HA.out; omega) (.inr rfl)).next (Nat.le_refl _)⟩
      clear r1 r2 r3 r4 HM HINC HW HF HA HB
      go_wp2
      go_loopg [6, 7, 8, 9] n (fun kq sv _ _ _ wr => ∃ (s : Nat) (d' : Nat → Nat × Nat), sv = .int .i64 (s : Nat) ∧ 20 ≤ s ∧ s ≤ 2199023255572 ∧ n - s ≤ kq ∧ Hd (Mix ky rk n s (2 * s) 0 d d') ∧ Hd (Rw wr g n d') ∧ Hd (Fr w wr [g]))
      case atStart => exact ⟨20, d2, rfl, by omega, by omega, by omega, R2, R1, R4⟩
      case round =>
        obtain ⟨s, d3, rfl, hs1, hs2, hks, HM3, HW3, HF3⟩ := hrel
        obtain ⟨gko, rfl⟩ : ∃ gko, gko = gk := ⟨_, rfl⟩
        by_cases hsn : s < n
        · go_wp2
          go_loopg [7, 8] n (fun kq av bv wr => ∃ (k : Nat) (d' : Nat → Nat × Nat), av = .int .i64 ((k * (2 * s) : Nat) : Int) ∧ bv = .int .i64 ((k * (2 * s) + 2 * s : Nat) : Int) ∧ k * (2 * s) ≤ n ∧ n - k * (2 * s) ≤ kq ∧ Hd (Mix ky rk n s (2 * s) (k * (2 * s)) d d') ∧ Hd (Rw wr g n d') ∧ Hd (Fr w wr [g]))
          case atStart => exact ⟨0, d3, by simp, by simp, by omega, by omega, ⟨by simpa using HM3.out⟩, HW3, HF3⟩
          case round =>
            obtain ⟨k, d4, rfl, rfl, hka, hkk, HM4, HW4, HF4⟩ := hrel
            obtain ⟨a, ha⟩ : ∃ a, a = k * (2 * s) := ⟨_, rfl⟩
            obtain ⟨b, hb⟩ : ∃ b, b = k * (2 * s) + 2 * s := ⟨_, rfl⟩
            have HA := Hd.mk ha
            have HB := Hd.mk hb
            have hab : b ≤ a + 2 * s ∧ a + 2 * s ≤ b := by omega
            rw [← hb, ← ha]
            rw [← ha] at hka hkk
            clear ha hb
            by_cases hlt : b ≤ n
            · have h2 : Hd (Srt ky rk d4 a (a + s) ∧ Srt ky rk d4 (a + s) b ∧ Lo rk d4 a (a + s) b) := ⟨by
                have := HM4.out.two (b := b) (by omega) HI.out hlt (by have := HA.out; omega) (by have := HB.out; omega)
                rw [← HA.out] at this
                exact this⟩
              go_wp2_with (fail)
              rw [show (a : Int) + (s : Int) = ((a + s : Nat) : Int) from by omega]
              refine (merge_any g n c hn hnc (b - a) wr d4 a (a + s) b (Nat.le_refl _) HW4.out (by omega) (by omega) hlt h2.out.1 h2.out.2.1 h2.out.2.2).mono ?_
              rintro e w1 ⟨rfl, ⟨d5, r1, r2, r3⟩, r4⟩
              have R1 := Hd.mk r1
              have R4 := Hd.mk (HF4.out.trans r4 (by simp))
              have R2 : Hd (Mix ky rk n s (2 * s) b d d5) := ⟨by
                rw [HA.out] at r2 r3
                exact HM4.out.step (by omega) (fun i j e => by rw [blk_two, blk_two, e]) r2 r3 hlt (by rw [HB.out]; omega) (by rw [HB.out]; omega) (.inl (by rw [HB.out]))⟩
              clear r1 r2 r3 r4
              go_wp2
              go_roundg (gk - 1)
              case measure => go_light; omega
              case rel =>
                go_light
                have h1 := HA.out
                have h2 := HB.out
                have h3 : b = (k + 1) * (2 * s) := by rw [Nat.add_mul]; omega
                exact ⟨k + 1, d5, by rw [← h3], by rw [← h3]; first | rfl | (congr 1; omega), by omega, by omega, by rw [← h3]; exact R2, R1, R4⟩
            · by_cases hms : a + s < n
              · have h2 : Hd (Srt ky rk d4 a (a + s) ∧ Srt ky rk d4 (a + s) n ∧ Lo rk d4 a (a + s) n) := ⟨by
                  have := HM4.out.two (b := n) (by omega) HI.out (Nat.le_refl _) (by have := HA.out; omega) (by have := HB.out; omega)
                  rw [← HA.out] at this
                  exact this⟩
                have hms' : (a : Int) + (s : Int) < n := by omega
                go_wp2_with (fail)
                rw [show (a : Int) + (s : Int) = ((a + s : Nat) : Int) from by omega]
                refine (merge_any g n c hn hnc (n - a) wr d4 a (a + s) n (Nat.le_refl _) HW4.out (by omega) hms (Nat.le_refl _) h2.out.1 h2.out.2.1 h2.out.2.2).mono ?_
                rintro e w1 ⟨rfl, ⟨d5, r1, r2, r3⟩, r4⟩
                have R1 := Hd.mk r1
                have R4 := Hd.mk (HF4.out.trans r4 (by simp))
                have R2 : Hd (Mix ky rk n (2 * s) (2 * (2 * s)) 0 d d5) := ⟨by
                  rw [HA.out] at r2 r3
                  exact (HM4.out.step (by omega) (fun i j e => by rw [blk_two, blk_two, e]) r2 r3 (Nat.le_refl _) (by have := HB.out; omega) (by have := HA.out; omega) (.inr rfl)).next (Nat.le_refl _)⟩
                clear r1 r2 r3 r4
                go_wp2
                go_roundg (gko - 1)
                case measure => go_light; omega
                case rel =>
                  go_light
                  exact ⟨2 * s, d5, by first | rfl | (congr 1; omega), by omega, by omega, by omega, R2, R1, R4⟩
              · have hms' : ¬ (a : Int) + (s : Int) < n := by omega
                have R2 : Hd (Mix ky rk n (2 * s) (2 * (2 * s)) 0 d d4) := ⟨(HM4.out.rest (by omega) (by have := HA.out; omega)).next (Nat.le_refl _)⟩
                go_wp2
                go_roundg (gko - 1)
                case measure => go_light; omega
                case rel =>
                  go_light
                  exact ⟨2 * s, d4, by first | rfl | (congr 1; omega), by omega, by omega, by omega, R2, HW4, HF4⟩
        · go_wp2
          go_end0
          exact ⟨rfl, ⟨d3, HW3.out, HM3.out.pm, HM3.out.end (by omega)⟩, HF3.out⟩
theorem sort_any (w : World) (g n c : Nat) (d : Nat → Nat × Nat) (hR : Rw w g n d) (hn : n ≤ 1099511627776) (hnc : n ≤ c) (hinc : ∀ i j, i < j → j < n → rk (d i) < rk (d j)) :
    Calls Tryz.prog 196 #[.slice (some ⟨g, 0, none⟩) n c, lfn] w fun e w' => e = .returned (.tuple #[]) ∧ (∃ d', Rw w' g n d' ∧ (lst n d').Perm (lst n d) ∧ Srt ky rk d' 0 n) ∧ Fr w w' [g] := by
  go_enter Tryz.func196, Tryz.ntmps196
  go_wp2_with (fail)
  refine (stable_any w g n c d hR hn hnc hinc).mono ?_
  rintro e w1 ⟨rfl, h1, h2⟩
  have H1 := Hd.mk h1
  have H2 := Hd.mk h2
  clear h1 h2
  go_wp2
  go_end0
  exact ⟨rfl, H1.out, H2.out⟩
end Go.Proofs.YtkdgfioigkijgaaGreat.Sort
set_option linter.unusedVariables false
set_option linter.unusedSimpArgs false
set_option maxRecDepth 100000
namespace Go.Proofs.YtkdgfioigkijgaaGreat.Lens
open Go.RowKit Go.Proofs.YtkdgfioigkijgaaGreat.Lib Go.Proofs.YtkdgfioigkijgaaGreat.Ints Go.Proofs.YtkdgfioigkijgaaGreat.Sorts Go.Proofs.YtkdgfioigkijgaaGreat.Sort
def lv : List Int → Nat → List (Nat × Nat)
  | [], _ => []
  | f :: fs, s => if 0 < f then (f.toNat, s) :: lv fs (s + 1) else lv fs (s + 1)
theorem lv_app : ∀ (a b : List Int) (s : Nat), lv (a ++ b) s = lv a s ++ lv b (s + a.length)
  | [], b, s => by simp [lv]
  | f :: a, b, s => by
    simp only [List.cons_append, lv]
    have := lv_app a b (s + 1)
    rw [show s + 1 + a.length = s + (f :: a).length from by simp; omega] at this
    split
    · rw [this]; rfl
    · rw [this]
theorem lv_snoc {fs : List Int} {j : Nat} (hj : j < fs.length) : lv (fs.take (j + 1)) 0 = lv (fs.take j) 0 ++ (if 0 < fs[j] then [((fs[j]).toNat, j)] else []) := by
  rw [List.take_succ_eq_append_getElem hj, lv_app]
  simp only [lv, List.length_take, Nat.min_eq_left (Nat.le_of_lt hj), Nat.zero_add]
theorem lv_mem : ∀ (fs : List Int) (s : Nat) (x : Nat × Nat), x ∈ lv fs s → s ≤ x.2 ∧ ∃ h : x.2 - s < fs.length, 0 < fs[x.2 - s] ∧ x.1 = (fs[x.2 - s]).toNat
  | [], s, x, h => by simp [lv] at h
  | f :: fs, s, x, h => by
    have hrec : x ∈ lv fs (s + 1) → s ≤ x.2 ∧ ∃ h : x.2 - s < (f :: fs).length, 0 < (f :: fs)[x.2 - s] ∧ x.1 = ((f :: fs)[x.2 - s]).toNat := fun hx => by
      obtain ⟨h1, h2, h3, h4⟩ := lv_mem fs (s + 1) x hx
      refine ⟨by omega, by simp; omega, ?_⟩
      simp only [show x.2 - s = x.2 - (s + 1) + 1 from by omega, List.getElem_cons_succ]
      exact ⟨h3, h4⟩
    simp only [lv] at h
    split at h
    · rename_i hf
      rcases List.mem_cons.1 h with rfl | h
      · exact ⟨Nat.le_refl _, by simp, by simpa using hf, by simp⟩
      · exact hrec h
    · exact hrec h
theorem lv_inc : ∀ (fs : List Int) (s : Nat), (lv fs s).Pairwise (fun x y => x.2 < y.2)
  | [], s => by simp [lv]
  | f :: fs, s => by
    simp only [lv]
    split
    · exact List.pairwise_cons.2 ⟨fun y hy => by have := (lv_mem fs (s + 1) y hy).1; simp; omega, lv_inc fs (s + 1)⟩
    · exact lv_inc fs (s + 1)
theorem lv_len (fs : List Int) (s : Nat) : (lv fs s).length ≤ fs.length := by
  induction fs generalizing s with
  | nil => simp [lv]
  | cons f fs ih =>
    simp only [lv]
    have := ih (s + 1)
    split <;> simp <;> omega
def ins (x : Nat × Nat) (l : List (Nat × Nat)) : List (Nat × Nat) := l.takeWhile (fun y => decide (y.1 ≤ x.1)) ++ x :: l.dropWhile (fun y => decide (y.1 ≤ x.1))
def srt : List (Nat × Nat) → List (Nat × Nat) := fun l => l.foldl (fun a x => ins x a) []
theorem srt_snoc (l : List (Nat × Nat)) (x : Nat × Nat) : srt (l ++ [x]) = ins x (srt l) := by simp [srt]
theorem ins_perm (x : Nat × Nat) (l : List (Nat × Nat)) : (ins x l).Perm (x :: l) := by
  unfold ins
  have h := List.takeWhile_append_dropWhile (p := fun y => decide (y.1 ≤ x.1)) (l := l)
  exact List.perm_middle.trans (by rw [h])
theorem of_takeWhile {α : Type} {p : α → Bool} : ∀ {l : List α} {y : α}, y ∈ l.takeWhile p → p y = true
  | x :: l, y, h => by
    by_cases hx : p x = true
    · rw [List.takeWhile_cons_of_pos hx] at h
      rcases List.mem_cons.1 h with rfl | h
      · exact hx
      · exact of_takeWhile h
    · rw [List.takeWhile_cons_of_neg hx] at h; simp at h
theorem ins_srt {x : Nat × Nat} {l : List (Nat × Nat)} (h : l.Pairwise (lx ky rk)) (hx : ∀ y ∈ l, y.2 < x.2) : (ins x l).Pairwise (lx ky rk) := by
  unfold ins
  have e := List.takeWhile_append_dropWhile (p := fun y => decide (y.1 ≤ x.1)) (l := l)
  rw [← e] at h
  obtain ⟨h1, h2, h3⟩ := List.pairwise_append.1 h
  have hd : ∀ y ∈ l.dropWhile (fun y => decide (y.1 ≤ x.1)), x.1 < y.1 := by
    have hne : ∀ (m : List (Nat × Nat)), m.Pairwise (lx ky rk) → ∀ y ∈ m.dropWhile (fun y => decide (y.1 ≤ x.1)), x.1 < y.1 := by
      intro m
      induction m with
      | nil => intro _ y hy; simp at hy
      | cons z m ih =>
        intro hm y hy
        have hm' := List.pairwise_cons.1 hm
        by_cases hz : z.1 ≤ x.1
        · rw [List.dropWhile_cons_of_pos (by simpa using hz)] at hy
          exact ih hm'.2 y hy
        · rw [List.dropWhile_cons_of_neg (by simpa using hz)] at hy
          rcases List.mem_cons.1 hy with rfl | hy
          · omega
          · have := hm'.1 y hy
            unfold lx ky at this
            omega
    exact hne l (by rw [e] at h; exact h)
  refine List.pairwise_append.2 ⟨h1, List.pairwise_cons.2 ⟨fun y hy => .inl (by unfold ky; have := hd y hy; omega), h2⟩, fun a ha b hb => ?_⟩
  rcases List.mem_cons.1 hb with rfl | hb
  · have a1 := of_takeWhile ha
    simp only [decide_eq_true_eq] at a1
    have a2 := hx a (by rw [← e]; exact List.mem_append_left _ ha)
    unfold lx ky rk; omega
  · exact h3 a ha b hb
theorem srt_all : ∀ (l acc : List (Nat × Nat)), acc.Pairwise (lx ky rk) → l.Pairwise (fun x y => x.2 < y.2) → (∀ y ∈ acc, ∀ x ∈ l, y.2 < x.2) →
    (l.foldl (fun a x => ins x a) acc).Pairwise (lx ky rk) ∧ (l.foldl (fun a x => ins x a) acc).Perm (acc ++ l)
  | [], acc, h1, _, _ => ⟨h1, by simp⟩
  | x :: l, acc, h1, h2, h3 => by
    have h2' := List.pairwise_cons.1 h2
    have h := srt_all l (ins x acc) (ins_srt h1 (fun y hy => h3 y hy x (by simp))) h2'.2 (fun y hy z hz => by
      rcases List.mem_cons.1 ((ins_perm x acc).mem_iff.1 hy) with rfl | hy
      · exact h2'.1 z hz
      · exact h3 y hy z (by simp [hz]))
    exact ⟨h.1, h.2.trans (((ins_perm x acc).append_right l).trans (by simpa using (List.perm_middle (l₁ := acc) (a := x) (l₂ := l)).symm))⟩
theorem srt_ok (fs : List Int) (s : Nat) : (srt (lv fs s)).Pairwise (lx ky rk) ∧ (srt (lv fs s)).Perm (lv fs s) := by
  have := srt_all (lv fs s) [] List.Pairwise.nil (lv_inc fs s) (fun y hy => by simp at hy)
  simpa [srt] using this
theorem lst_eq {l : List (Nat × Nat)} : lst l.length (fun i => l.getD i (0, 0)) = l := by
  apply List.ext_getElem?
  intro i
  by_cases h : i < l.length
  · rw [lst_get h]; simp [h]
  · rw [List.getElem?_eq_none (by rw [lst_len]; omega), List.getElem?_eq_none (by omega)]
theorem insertion_nil (w : World) :
    Calls Tryz.prog 205 #[.slice none 0 0, .int .i64 0, .int .i64 0, lfn] w fun e w' => e = .returned (.tuple #[]) ∧ w = w' := by
  unfold lfn
  go_enter Tryz.func205, Tryz.ntmps205
  go_wp2
  go_loopg [8] 0 (fun kq iv wr => iv = .int .i64 1 ∧ wr = w)
  case atStart => exact ⟨rfl, rfl⟩
  case round =>
    obtain ⟨rfl, rfl⟩ := hrel
    go_wp2
    go_end0
    exact ⟨rfl, rfl⟩
theorem stable_nil (w : World) :
    Calls Tryz.prog 202 #[.slice none 0 0, .int .i64 0, lfn] w fun e w' => e = .returned (.tuple #[]) ∧ w = w' := by
  unfold lfn
  go_enter Tryz.func202, Tryz.ntmps202
  go_wp2
  go_loopg [7, 8] 0 (fun kq av bv wr => av = .int .i64 0 ∧ bv = .int .i64 20 ∧ wr = w)
  case atStart => exact ⟨rfl, rfl, rfl⟩
  case round =>
    obtain ⟨rfl, rfl, rfl⟩ := hrel
    go_wp2_with (fail)
    refine (insertion_nil wr).mono ?_
    rintro e w' ⟨rfl, rfl⟩
    go_wp2
    go_loopg [6, 7, 8, 9] 0 (fun kq sv _ _ _ w2 => sv = .int .i64 20 ∧ w2 = wr)
    case atStart => exact ⟨rfl, rfl⟩
    case round =>
      obtain ⟨rfl, rfl⟩ := hrel
      go_wp2
      go_end0
      exact ⟨rfl, rfl⟩
theorem sort_nil (w : World) :
    Calls Tryz.prog 196 #[.slice none 0 0, lfn] w fun e w' => e = .returned (.tuple #[]) ∧ w = w' := by
  go_enter Tryz.func196, Tryz.ntmps196
  go_wp2_with (fail)
  refine (stable_nil w).mono ?_
  rintro e w' ⟨rfl, rfl⟩
  go_wp2
  go_end0
  exact ⟨rfl, rfl⟩
theorem infoItem : (Tryz.prog.info? 320).map (fun i => (i.zero, i.size, i.bytes)) = some (some (.agg #[.int .i64 0, .int .i64 0, .slice none 0 0]), 3, 40) := by kernel_rfl
theorem lfs_app (a b : List (Nat × Nat)) : lfs (a ++ b) = lfs a ++ lfs b := by simp [lfs]
set_option maxHeartbeats 2000000 in
theorem leaves_any (w : World) (A : Option Addr) (n c : Nat) (fs : List Int) (p : Option Nat) (hn : fs.length = n) (hS : Sl w A (i64s fs) p) (hn1 : n ≤ 288) (hf : out 1099511627776 fs = false) :
    Calls Tryz.prog 183 #[.slice A n c] w fun e w' => ∃ B m d q, e = .returned (.slice B m d) ∧ (srt (lv fs 0)).length = m ∧ m ≤ d ∧ d ≤ maxLen ∧ (B = none → m = 0 ∧ d = 0) ∧ Sl w' B (lfs (srt (lv fs 0))) q ∧ (∀ k, q = some k → w.heap.size ≤ k ∧ k < w'.heap.size) ∧ Fr w w' [] := by
  subst hn
  have HS := Hd.mk hS
  have HO := Hd.mk hf
  clear hS hf
  obtain ⟨i0, hi0, hz0, hz1, hz2⟩ := info_parts infoItem
  go_enter Tryz.func183, Tryz.ntmps183
  go_wp2
  go_loopg [3, 8] fs.length (fun kq sv jv wr => ∃ (j : Nat) (B : Option Addr) (m d : Nat), jv = .int .i64 (j : Nat) ∧ sv = .slice B m d ∧ j + kq = fs.length ∧ m ≤ j ∧ Hd (m = 0 → B = none ∧ d = 0) ∧ Hd ((lv (fs.take j) 0).length = m) ∧ Hd (wr.ownsRow 0 320 3 (.slice B m d) m (lfs (lv (fs.take j) 0))) ∧ Hd (∀ k, (Value.slice B m d).ownBlock = some k → w.heap.size ≤ k) ∧ Hd (Fr w wr []))
  case atStart => exact ⟨0, none, 0, 0, rfl, rfl, by omega, by omega, ⟨fun _ => ⟨rfl, rfl⟩⟩, ⟨by simp [lv]⟩, ⟨by simpa [lv, lfs] using own_nil _ _ _ _⟩, ⟨fun k hk => by simp [Value.ownBlock] at hk⟩, ⟨Fr.refl _ _⟩⟩
  case round =>
    obtain ⟨j, B, m, d, rfl, rfl, hj, hm, HN, HL, HW, HB, HF⟩ := hrel
    by_cases h1 : j < fs.length
    · obtain ⟨a, o1, rfl, _, ha⟩ := (HS.out.frame HF.out (by simp)) (by simp [i64s]; omega)
      obtain ⟨x, hx⟩ : ∃ x, x = fs[j] := ⟨_, rfl⟩
      have ca := (ha j (by simp [i64s]; omega)).trans (by rw [i64s_get, List.getElem?_eq_getElem (by omega), ← hx])
      have hsn := lv_snoc h1
      rw [← hx] at hsn
      have HSN := Hd.mk hsn
      have hbd := of_out HO.out h1
      rw [← hx] at hbd
      clear ha hx hsn
      by_cases h2 : 0 < x
      · have hxn : (x : Int) = ((x.toNat : Nat) : Int) := by omega
        obtain ⟨y, hy⟩ : ∃ y, y = x.toNat := ⟨_, rfl⟩
        rw [← hy] at hxn
        have HY := Hd.mk hy
        clear hy
        subst hxn
        have h3 : Hd (lv (fs.take (j + 1)) 0 = lv (fs.take j) 0 ++ [(y, j)]) := ⟨by rw [HSN.out, if_pos h2, ← HY.out]⟩
        clear HSN HY
        go_wp2_with (at_builtin; refine wpList_append_sl rfl (.tmp 15) (.tmp 19) 317 rfl 320 i0 (.agg #[.int .i64 0, .int .i64 0, .slice none 0 0]) 3 40 Tryz.underlying317 hi0 hz0 hz1 hz2 rfl (by decide) (.slice B m d) m _ rfl (by exact HW.out.alloc _) (some ⟨wr.heap.size, 0, none⟩) 1 1 [.int .i64 (y : Nat), .int .i64 (j : Nat), .slice none 0 0] (some wr.heap.size) rfl rfl (by exact sl_of_blk (blk_new _ _)) (by intro h; cases h) (by intro u hu; simp at hu; rcases hu with rfl | rfl | rfl <;> rfl) (by unfold maxLen; omega) (by omega) ?_; intro A' c' w1 hown' hgrow haft; have O1 := Hd.mk hown'; have G1 := Hd.mk hgrow; have F1 := Hd.mk haft; clear hown' hgrow haft)
        go_roundg (gk - 1)
        case measure => go_light; omega
        case rel =>
          go_light
          refine ⟨j + 1, A', m + 1, c', by go_num, rfl, by omega, by omega, ⟨fun h => by omega⟩, ⟨by rw [h3.out, List.length_append, HL.out]; rfl⟩, ⟨?_⟩, ⟨fun k hk => ?_⟩, ⟨(HF.out.alloc _).grown G1.out (fun k hk => .inr (HB.out k hk))⟩⟩
          · rw [h3.out, lfs_app]; exact O1.out
          · rcases F1.out with h | ⟨z, h, hz⟩
            · rw [h] at hk; exact HB.out k hk
            · rw [h] at hk; cases hk
              have := HF.out.size
              simp at hz
              omega
      · have h3 : Hd (lv (fs.take (j + 1)) 0 = lv (fs.take j) 0) := ⟨by rw [HSN.out, if_neg h2, List.append_nil]⟩
        clear HSN
        go_wp2
        go_roundg (gk - 1)
        case measure => go_light; omega
        case rel => go_light; exact ⟨j + 1, B, m, d, by go_num, rfl, by omega, by omega, HN, by rw [h3.out]; exact HL, by rw [h3.out]; exact HW, HB, HF⟩
    · have hfl : fs.take j = fs := List.take_of_length_le (by omega)
      rw [hfl] at HL HW
      clear hfl
      have hso := srt_ok fs 0
      have HSO := Hd.mk hso
      clear hso
      by_cases hm0 : m = 0
      · subst hm0
        obtain ⟨rfl, rfl⟩ := HN.out rfl
        have hs0 : Hd (srt (lv fs 0) = []) := ⟨by
          have : lv fs 0 = [] := List.eq_nil_of_length_eq_zero HL.out
          rw [this]; rfl⟩
        go_wp2_with (fail)
        refine (sort_nil wr).mono ?_
        rintro e w' ⟨rfl, rfl⟩
        go_wp2
        go_ret
        rw [hs0.out]
        exact ⟨none, 0, 0, none, rfl, rfl, Nat.le_refl _, Nat.zero_le _, fun _ => ⟨rfl, rfl⟩, Sl.nil _ _ _, (fun k hk => by cases hk), HF.out⟩
      · obtain ⟨g, d', e1, hd⟩ := own_some HW.out (by omega)
        injection e1 with e1 _ e2
        subst e1 e2
        obtain ⟨L, hL⟩ : ∃ L, L = lv fs 0 := ⟨_, rfl⟩
        have hln : L.length = m := by rw [hL]; exact HL.out
        have hR : Rw wr g m (fun i => L.getD i (0, 0)) := by
          rcases HW.out.2 with ⟨h', hn0⟩ | ⟨g', cap, cur, h', hb, hh, hnc, hcm, hcs, ht⟩
          · exact absurd hn0 hm0
          · injection h' with h1 h2 h3
            injection h1 with h1
            injection h1 with h1
            subst h1
            refine ⟨cur, hh, ?_⟩
            rw [← hln, lst_eq, hL, ← ht, HL.out]
        have hdm : d ≤ maxLen := by
          obtain ⟨_, _, e, _, h, _⟩ := own_slice HW.out
          injection e with _ _ e
          rw [e]; exact h
        have hinc : ∀ i j, i < j → j < m → rk ((fun i => L.getD i (0, 0)) i) < rk ((fun i => L.getD i (0, 0)) j) := fun i j e1 e2 => by
          have := List.pairwise_iff_getElem.1 (lv_inc fs 0) i j (by rw [HL.out]; omega) (by rw [HL.out]; omega) e1
          simp only [List.getD_eq_getElem?_getD]
          rw [List.getElem?_eq_getElem (by omega), List.getElem?_eq_getElem (by omega)]
          simp only [Option.getD_some, rk]
          subst hL
          exact this
        have HR := Hd.mk hR
        have HI := Hd.mk hinc
        have HDM := Hd.mk hdm
        have HLL := Hd.mk hL
        have HLN := Hd.mk hln
        clear hR hinc hdm hL hln
        go_wp2_with (fail)
        refine (sort_any wr g m d _ HR.out (by omega) hd HI.out).mono ?_
        rintro e w1 ⟨rfl, ⟨D, r1, r2, r3⟩, r4⟩
        have hres : lst m D = srt (lv fs 0) := by
          refine srt_one (d0 := D) r3 ?_ HSO.out.1
          have e := r2
          rw [← HLN.out, lst_eq, HLL.out] at e
          rw [HL.out] at e
          exact e.trans HSO.out.2.symm
        have HRES := Hd.mk hres
        have R1 := Hd.mk r1
        have R4 := Hd.mk r4
        clear r1 r2 r3 r4 hres
        go_wp2
        go_ret
        refine ⟨some ⟨g, 0, none⟩, m, d, some g, rfl, by rw [← HRES.out, lst_len], hd, HDM.out, (fun h => by cases h), ?_, fun k hk => ?_, HF.out.trans R4.out (fun x hx hm => ?_)⟩
        · intro h0
          refine ⟨g, 0, rfl, rfl, fun j hj => ?_⟩
          rw [← HRES.out] at hj ⊢
          obtain ⟨cs, c1, c2⟩ := R1.out
          rw [lfs_len, lst_len] at hj
          rw [Nat.zero_add, blk_cell c1, ← c2, List.getElem?_take, if_pos hj, Array.getElem?_toList]
        · cases hk; exact ⟨HB.out g rfl, by have := own_lt HW.out (k := g) rfl; have := R4.out.size; omega⟩
        · simp only [List.mem_cons, List.not_mem_nil, or_false] at hm
          subst hm
          have := HB.out x rfl
          omega
end Go.Proofs.YtkdgfioigkijgaaGreat.Lens
set_option linter.unusedVariables false
set_option linter.unusedSimpArgs false
set_option maxRecDepth 100000
namespace Go.Proofs.YtkdgfioigkijgaaGreat.Lens
open Go.RowKit Go.Proofs.YtkdgfioigkijgaaGreat.Lib Go.Proofs.YtkdgfioigkijgaaGreat.Ints Go.Proofs.YtkdgfioigkijgaaGreat.Sorts Go.Proofs.YtkdgfioigkijgaaGreat.Sort Go.Proofs.YtkdgfioigkijgaaGreat.Pm
def sym : T → Nat
  | .leaf _ s => s
  | .pack _ _ => 0
def enc (p : T × Value) : List Value := [.int .i64 p.1.wt, .int .i64 (sym p.1), p.2]
def encs (ps : List (T × Value)) : List Value := ps.flatMap enc
theorem encs_len (ps : List (T × Value)) : (encs ps).length = ps.length * 3 := flat_len enc 3 (fun _ => rfl) ps
theorem encs_app (a b : List (T × Value)) : encs (a ++ b) = encs a ++ encs b := by simp [encs]
def Ok (w : World) (gl : Nat) : T → Value → Prop
  | .leaf _ _, v => v = .slice none 0 0
  | .pack a b, v => ∃ g off cap va vb, v = .slice (some ⟨g, off, none⟩) 2 cap ∧ g ≠ gl ∧ 2 ≤ cap ∧ Sl w (some ⟨g, off, none⟩) (enc (a, va) ++ enc (b, vb)) (some g) ∧ Ok w gl a va ∧ Ok w gl b vb
theorem Ok.frame {w w' : World} {gl : Nat} {F : List Nat} (hf : Fr w w' F) (hF : ∀ k ∈ F, k = gl) : ∀ (t : T) (v : Value), Ok w gl t v → Ok w' gl t v
  | .leaf _ _, v, h => h
  | .pack a b, v, h => by
    obtain ⟨g, off, cap, va, vb, h1, h2, h0, h3, h4, h5⟩ := h
    exact ⟨g, off, cap, va, vb, h1, h2, h0, h3.frame hf (fun k hk hm => by cases hk; exact h2 (hF _ hm)), Ok.frame hf hF a va h4, Ok.frame hf hF b vb h5⟩
theorem Ok.one {w : World} {gl : Nat} : ∀ (t : T) (v : Value), Ok w gl t v → v.oneCell' = true
  | .leaf _ _, v, h => by rw [show v = .slice none 0 0 from h]; rfl
  | .pack a b, v, h => by
    obtain ⟨g, off, cap, va, vb, rfl, _⟩ := h
    rfl
def RowPost (w : World) (gl : Nat) (ts : List T) (e : Ending) (w' : World) : Prop :=
  ∃ B m d ps' q', e = .returned (.slice B m d) ∧ ps'.map (·.1) = ts ∧ ps'.length = m ∧ m ≤ d ∧ d ≤ maxLen ∧ (B = none → m = 0 ∧ d = 0) ∧ Sl w' B (encs ps') q' ∧ (∀ k, q' = some k → w.heap.size ≤ k) ∧ (∀ p ∈ ps', Ok w' gl p.1 p.2) ∧ Fr w w' []
theorem encs_two (ps : List (T × Value)) (i : Nat) (h : i + 1 < ps.length) : ((encs ps).drop (i * 3)).take 6 = enc ps[i] ++ enc ps[i + 1] := by
  have e : ps = ps.take i ++ (ps[i] :: ps[i + 1] :: ps.drop (i + 2)) := by
    rw [← List.drop_eq_getElem_cons h, ← List.drop_eq_getElem_cons (by omega), List.take_append_drop]
  have hl : (encs (ps.take i)).length = i * 3 := by rw [encs_len, List.length_take, Nat.min_eq_left (by omega)]
  have e2 : encs ps = encs (ps.take i) ++ (enc ps[i] ++ (enc ps[i + 1] ++ encs (ps.drop (i + 2)))) := by
    conv => lhs; rw [e]
    rw [encs_app]; rfl
  rw [e2, List.drop_left' hl, ← List.append_assoc, List.take_left' (by simp [enc])]
theorem enc_pack (a b : T × Value) (v : Value) : enc (.pack a.1 b.1, v) = [.int .i64 ((a.1.wt : Int) + (b.1.wt : Int)), .int .i64 0, v] := by
  simp [enc, T.wt, sym]
set_option maxHeartbeats 2000000 in
theorem packed_any (w : World) (gl : Nat) (A : Option Addr) (n c : Nat) (ps : List (T × Value)) (q : Option Nat) (M : Nat) (hn : ps.length = n) (hnc : n ≤ c) (hS : Sl w A (encs ps) q) (hq : q ≠ some gl) (hok : ∀ p ∈ ps, Ok w gl p.1 p.2) (hM : ∀ p ∈ ps, p.1.wt ≤ M) (hM2 : M ≤ 1152921504606846976) (hn1 : n ≤ 1000) :
    Calls Tryz.prog 185 #[.slice A n c] w (RowPost w gl (pk (ps.map (·.1)))) := by
  subst hn
  have HS := Hd.mk hS
  have HOK := Hd.mk hok
  have HMM := Hd.mk hM
  have HQ := Hd.mk hq
  clear hS hok hM hq
  obtain ⟨i0, hi0, hz0, hz1, hz2⟩ := info_parts infoItem
  go_enter Tryz.func185, Tryz.ntmps185
  go_wp2
  go_loopg [3, 4] ps.length (fun kq sv iv wr => ∃ (i j : Nat) (B : Option Addr) (m d : Nat) (P : List (T × Value)), iv = .int .i64 (i : Nat) ∧ sv = .slice B m d ∧ Hd (i = 2 * j) ∧ i ≤ ps.length ∧ ps.length - i ≤ kq ∧ m ≤ 1000 ∧ Hd (P.length = m) ∧ Hd (m = j) ∧ Hd (P.map (·.1) = pk ((ps.map (·.1)).take i)) ∧ Hd (wr.ownsRow 0 320 3 (.slice B m d) m (encs P)) ∧ Hd (∀ p ∈ P, Ok w gl p.1 p.2) ∧ Hd (∀ k, (Value.slice B m d).ownBlock = some k → w.heap.size ≤ k) ∧ Hd (Fr w wr []))
  case atStart => exact ⟨0, 0, none, 0, 0, [], rfl, rfl, ⟨rfl⟩, by omega, by omega, by omega, ⟨rfl⟩, ⟨rfl⟩, ⟨rfl⟩, ⟨own_nil _ _ _ _⟩, ⟨fun p hp => by simp at hp⟩, ⟨fun k hk => by simp [Value.ownBlock] at hk⟩, ⟨Fr.refl _ _⟩⟩
  case round =>
    obtain ⟨i, j, B, m, d, P, rfl, rfl, HI, hin, hk, hm, HL, HMJ, HP, HW, HO, HB, HF⟩ := hrel
    by_cases h1 : i + 1 < ps.length
    · obtain ⟨b0, o1, rfl, hqb, ha⟩ := Sl.row (enc := enc) (sz := 3) (fun _ => rfl) (HS.out.frame HF.out (by simp)) (i := i) (by omega) (by decide)
      obtain ⟨b0', o1', e', _, hb⟩ := Sl.row (enc := enc) (sz := 3) (fun _ => rfl) (HS.out.frame HF.out (by simp)) (i := i + 1) (by omega) (by decide)
      injection e' with e'
      injection e' with e1 e2
      subst e1 e2
      obtain ⟨x, hx⟩ : ∃ x, x = ps[i] := ⟨_, rfl⟩
      obtain ⟨y, hy⟩ : ∃ y, y = ps[i + 1] := ⟨_, rfl⟩
      rw [← hx] at ha
      rw [← hy] at hb
      have ca := ha 0 (by decide)
      have cb := hb 0 (by decide)
      simp only [enc, List.getElem?_cons_zero, Nat.add_zero] at ca cb
      have hxM : x.1.wt ≤ M := HMM.out x (by rw [hx]; exact List.getElem_mem _)
      have hyM : y.1.wt ≤ M := HMM.out y (by rw [hy]; exact List.getElem_mem _)
      have HX := Hd.mk hx
      have HY := Hd.mk hy
      have HQB := Hd.mk hqb
      have hcut := run_cut_mid (P := Tryz.prog) 317 320 .i64 .i64 Tryz.underlying317 hi0 3 hz1 (some ⟨b0, o1, none⟩) ps.length c i (i + 2) (by omega) (by omega)
      rw [show cutA (some ⟨b0, o1, none⟩) c i 3 = some ⟨b0, o1 + i * 3, none⟩ from by unfold cutA; rw [if_neg (by omega)]; simp [Addr.add_lit], show i + 2 - i = 2 from by omega, show (((i + 2 : Nat)) : Int) = (i : Int) + 2 from by omega] at hcut
      clear ha hb hx hy hqb
      have hb0 : b0 < w.heap.size := by
        obtain ⟨bq, hbq, hlt⟩ := HS.out.lt (by rw [encs_len]; omega)
        rw [HQB.out] at hbq
        cases hbq
        exact hlt
      have hne : Hd (b0 ∉ (Value.slice B m d).ownBlock.toList) := ⟨by
        intro hm
        cases hob : (Value.slice B m d).ownBlock with
        | none => rw [hob] at hm; simp at hm
        | some k => rw [hob] at hm; simp at hm; subst hm; have := HB.out b0 hob; omega⟩
      have n1 : ((i : Int) + 1).toNat = i + 1 := by omega
      have n2 : IntKind.i64.wrap ((i : Int) + 1) = (i : Int) + 1 := IntWalk.i64_in _ (by omega)
      have n3 : IntKind.i64.wrap ((i : Int) + 2) = (i : Int) + 2 := IntWalk.i64_in _ (by omega)
      have n4 : IntKind.i64.wrap ((x.1.wt : Int) + (y.1.wt : Int)) = (x.1.wt : Int) + (y.1.wt : Int) := IntWalk.i64_in _ (by omega)
      have n5 : (0 : Int) ≤ (i : Int) + 1 := by omega
      have n6 : (i : Int) < ps.length := by omega
      have n7 : (i : Int) + 1 < ps.length := by omega
      go_upto_region 5 with (fail)
      go_region_held3 (fun w' => w'.cell? ⟨b0, o1 + i * 3, none⟩ = some (.int .i64 x.1.wt) ∧ w'.cell? ⟨b0, o1 + (i + 1) * 3, none⟩ = some (.int .i64 y.1.wt)) (go_keep)
        (first | (refine step_append_sl rfl (.tmp 12) (.tmp 31) 317 rfl 320 i0 (.agg #[.int .i64 0, .int .i64 0, .slice none 0 0]) 3 40 Tryz.underlying317 hi0 hz0 hz1 hz2 rfl (by decide) (.slice B m d) m (encs P) (by simp [Act.eval, Act.put]) (by exact HW.out.alloc _) (some ⟨wr.heap.size, 0, none⟩) 1 1 [.int .i64 ((x.1.wt : Int) + (y.1.wt : Int)), .int .i64 0, .slice (some ⟨b0, o1 + i * 3, none⟩) 2 (c - i)] (some wr.heap.size) (by simp [Act.eval, Act.put]) rfl (by exact sl_of_blk (blk_new _ _)) (by intro h; cases h) (by intro u hu; simp at hu; rcases hu with rfl | rfl | rfl <;> rfl) (by unfold maxLen; omega) (by omega) ?_; intro A3 d3 w3 hown' hgrow haft; have O3 := Hd.mk hown'; have G3 := Hd.mk hgrow; have F3 := Hd.mk haft; have KF := Fr.grown (w := wr) (F := (Value.slice B m d).ownBlock.toList) (by first | exact (Fr.refl wr _).drew.alloc _ | exact ((Fr.refl wr _).alloc _).drew | exact (Fr.refl wr _).alloc _) hgrow (fun k hk => .inl (by rw [hk]; simp)); have k1 := Fr.cellAt KF hne.out ca; have k2 := Fr.cellAt KF hne.out cb; have HKF := Hd.mk KF; clear hown' hgrow haft KF))
      have HSL : Hd (Sl w (some ⟨b0, o1 + i * 3, none⟩) (enc (x.1, x.2) ++ enc (y.1, y.2)) (some b0)) := ⟨by
        have h5 := (HS.out.drop (i * 3)).take 6
        rw [encs_two ps i h1, ← HX.out, ← HY.out, HQB.out] at h5
        exact h5⟩
      clear n1 n2 n3 n4 n5 n6 n7 ca cb k1 k2 hcut
      go_wp2
      go_roundg (gk - 1)
      case measure => go_light; omega
      case rel =>
        go_light
        refine ⟨i + 2, j + 1, A3, m + 1, d3, P ++ [(.pack x.1 y.1, .slice (some ⟨b0, o1 + i * 3, none⟩) 2 (c - i))], by go_num, rfl, ⟨by have := HI.out; omega⟩, by omega, by omega, by have := HI.out; have := HMJ.out; omega, ⟨by rw [List.length_append, HL.out]; rfl⟩, ⟨by rw [HMJ.out]⟩, ⟨?_⟩, ⟨?_⟩, ⟨fun p hp => ?_⟩, ⟨fun k hk => ?_⟩, ⟨HF.out.trans HKF.out (fun k _ hk => ?_)⟩⟩
        · have h6 := pk_get (ps.map (·.1)) j (by rw [List.length_map]; have := HI.out; omega)
          have hi2 : i + 2 = 2 * (j + 1) := by have := HI.out; omega
          rw [List.map_append, HP.out, hi2, ← pk_take, HI.out, ← pk_take, List.take_add_one, h6]
          simp only [List.getElem_map, List.map_cons, List.map_nil, Option.toList]
          have hI := HI.out
          subst hI
          rw [HX.out, HY.out]
        · rw [encs_app]
          have h7 := O3.out
          rw [← enc_pack x y] at h7
          simpa [encs] using h7
        · rcases List.mem_append.1 hp with hp | hp
          · exact HO.out p hp
          · simp only [List.mem_cons, List.not_mem_nil, or_false] at hp
            subst hp
            exact ⟨b0, o1 + i * 3, c - i, x.2, y.2, rfl, fun e => by have := HQ.out; rw [HQB.out, e] at this; exact this rfl, by omega, HSL.out, HOK.out x (by rw [HX.out]; exact List.getElem_mem _), HOK.out y (by rw [HY.out]; exact List.getElem_mem _)⟩
        · rcases F3.out with h | ⟨z, h, hz⟩
          · rw [h] at hk; exact HB.out k hk
          · rw [h] at hk; cases hk
            have := HF.out.size
            simp at hz
            omega
        · cases hob : (Value.slice B m d).ownBlock with
          | none => rw [hob] at hk; simp at hk
          | some z => rw [hob] at hk; simp at hk; subst hk; have := HB.out k hob; omega
    · go_wp2
      go_ret
      obtain ⟨A', c', e, h2, h3, h4⟩ := own_slice HW.out
      injection e with e1 _ e2
      subst e1 e2
      have hpk : pk ((ps.map (·.1)).take i) = pk (ps.map (·.1)) := by
        have hI := HI.out
        rw [hI, ← pk_take, List.take_of_length_le (by rw [pk_len, List.length_map]; omega)]
      unfold RowPost
      refine ⟨B, m, d, P, (Value.slice B m d).ownBlock, rfl, by rw [HP.out, hpk], HL.out, h2, h3, fun h => own_none HW.out h, ?_, HB.out, fun p hp => Ok.frame HF.out (by simp) p.1 p.2 (HO.out p hp), HF.out⟩
      intro h0
      rcases HW.out.2 with ⟨h', hn0⟩ | ⟨g', cap, cur, h', hb, hh, hnc, hcm, hcs, ht⟩
      · rw [encs_len, HL.out, hn0] at h0; omega
      · injection h' with h1 h2 h3
        subst h1
        refine ⟨g', 0, rfl, rfl, fun k hk => ?_⟩
        have hl := encs_len P
        rw [HL.out] at hl
        rw [Nat.zero_add, blk_cell hh, ← ht, List.getElem?_take, if_pos (by omega), Array.getElem?_toList]
end Go.Proofs.YtkdgfioigkijgaaGreat.Lens
