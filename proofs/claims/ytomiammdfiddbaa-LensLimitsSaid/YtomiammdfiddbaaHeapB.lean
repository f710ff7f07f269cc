/- container/heap over a row of numbers: down and up. Conditions: at most 2^40 numbers. -/
import Derived.Test.YtomiammdfiddbaaHeapA
set_option linter.unusedVariables false
set_option linter.unusedSimpArgs false
set_option maxRecDepth 100000
namespace Go.Proofs.Ytomiammdfiddbaa.Heap
open Go.RowKit Go.Proofs.Ytomiammdfiddbaa.Lib Go.Proofs.Ytomiammdfiddbaa.Ints Go.Proofs.Ytomiammdfiddbaa.Heaps
open Go.Proofs.Ytomiammdfiddbaa.Sorts (lst lst_len lst_get sw sw_perm)
def DnPost (w : World) (p g n c : Nat) (d : Nat → Int) (i0 m : Nat) (e : Ending) (w' : World) : Prop :=
  ∃ (d' : Nat → Int) (v : Value), e = .returned v ∧ HR w' p g n c d' ∧ Hq d' m i0 ∧ (lst m d').Perm (lst m d) ∧ (∀ k, m ≤ k → d' k = d k) ∧ Fr w w' [g]
set_option maxHeartbeats 4000000 in
theorem down_any (w : World) (p g n c : Nat) (d : Nat → Int) (i0 m : Nat) (hH : HR w p g n c d) (hn : n ≤ 1099511627776) (hm : m ≤ n) (hi : i0 ≤ m) (hq : Hq d m (i0 + 1)) :
    Calls Try.prog 37 #[.iface 46 (.pointer (some ⟨p, 0, none⟩)), .int .i64 (i0 : Nat), .int .i64 (m : Nat)] w (DnPost w p g n c d i0 m) := by
  have H := Hd.mk hH
  have HQ := Hd.mk hq
  clear hH hq
  go_enter Try.func37, Try.ntmps37
  go_wp2
  go_loopg [7] (m - i0) (fun kq iv wr => ∃ (i : Nat) (d1 : Nat → Int), iv = .int .i64 (i : Nat) ∧ i0 ≤ i ∧ m - i ≤ kq ∧ i ≤ m ∧ Hd (HR wr p g n c d1) ∧ Hd (Dn d1 m i0 i) ∧ Hd ((lst m d1).Perm (lst m d)) ∧ Hd (∀ k, m ≤ k → d1 k = d k) ∧ Hd (Fr w wr [g]))
  case atStart => exact ⟨i0, d, rfl, Nat.le_refl _, by omega, hi, H, ⟨Dn.start HQ.out⟩, ⟨List.Perm.refl _⟩, ⟨fun _ _ => rfl⟩, ⟨Fr.refl _ _⟩⟩
  case round =>
    obtain ⟨i, d1, rfl, hlo, hk, him, HI, HD, HP, HK, HF⟩ := hrel
    clear H HQ
    by_cases h1 : 2 * i + 1 < m
    · by_cases h2 : 2 * i + 2 < m
      · have ml := mLess wr p _ HI.out.cell
        by_cases h3 : d1 (2 * i + 2) < d1 (2 * i + 1)
        · have hd3 : decide (d1 (2 * i + 2) < d1 (2 * i + 1)) = true := decide_eq_true h3
          have HMIN : Hd (∀ b, kid i b → b < m → d1 (2 * i + 2) ≤ d1 b) := ⟨fun b hb _ => by
            rcases hb with rfl | rfl
            · omega
            · exact Int.le_refl _⟩
          clear h3
          go_wp2_with (fail)
          refine (less_any wr g n c d1 (2 * i + 2) (2 * i + 1) HI.out.row hn (by omega) (by omega)).mono ?_
          rintro e w1 ⟨rfl, q1⟩
          have H1 := Hd.mk (HI.out.frame q1 (by simp) (by simp))
          have F1 := Hd.mk (HF.out.trans q1 (by simp))
          clear q1 ml
          by_cases hlt : d1 (2 * i + 2) < d1 i
          · have hd : decide (d1 (2 * i + 2) < d1 i) = true := decide_eq_true hlt
            have ml2 := mLess w1 p _ H1.out.cell
            have HLT := Hd.mk hlt
            clear hlt
            go_wp2_with (fail)
            refine (less_any w1 g n c d1 (2 * i + 2) i H1.out.row hn (by omega) (by omega)).mono ?_
            rintro e w2 ⟨rfl, q2⟩
            have H2 := Hd.mk (H1.out.frame q2 (by simp) (by simp))
            have F2 := Hd.mk (F1.out.trans q2 (by simp))
            have ms := mSwap w2 p _ H2.out.cell
            clear q2 ml2
            go_wp2_with (fail)
            refine (swap_any w2 g n c d1 i (2 * i + 2) H2.out.row hn (by omega) (by omega)).mono ?_
            rintro e w3 ⟨rfl, r3, q3⟩
            have H3 : Hd (HR w3 p g n c (sw d1 i (2 * i + 2))) := ⟨⟨q3.blk H2.out.ptr (by simp; exact H2.out.ne), r3⟩⟩
            have F3 := Hd.mk (F2.out.trans q3 (by simp))
            clear r3 q3 ms
            go_wp2
            go_roundg (gk - 1)
            case measure => omega
            case rel => exact ⟨2 * i + 2, _, by go_num, by omega, by omega, by omega, H3, ⟨HD.out.step hlo (by unfold kid; omega) (by omega) (fun b hb hbn => HMIN.out b hb hbn) (by have := HLT.out; omega)⟩, ⟨(sw_perm (by omega) (by omega)).trans HP.out⟩, ⟨fun k hk => (sw_o d1 (by omega) (by omega)).trans (HK.out k hk)⟩, F3⟩
          · have hd : decide (d1 (2 * i + 2) < d1 i) = false := decide_eq_false hlt
            have ml2 := mLess w1 p _ H1.out.cell
            have HLT := Hd.mk hlt
            clear hlt
            go_wp2_with (fail)
            refine (less_any w1 g n c d1 (2 * i + 2) i H1.out.row hn (by omega) (by omega)).mono ?_
            rintro e w2 ⟨rfl, q2⟩
            have H2 := Hd.mk (H1.out.frame q2 (by simp) (by simp))
            have F2 := Hd.mk (F1.out.trans q2 (by simp))
            clear q2 ml2
            go_wp2
            go_ret
            unfold DnPost
            refine ⟨d1, _, rfl, H2.out, HD.out.done (fun b hb hbn => ?_), HP.out, HK.out, F2.out⟩
            have := HLT.out
            have := HMIN.out b hb hbn
            omega
        · have hd3 : decide (d1 (2 * i + 2) < d1 (2 * i + 1)) = false := decide_eq_false h3
          have HMIN : Hd (∀ b, kid i b → b < m → d1 (2 * i + 1) ≤ d1 b) := ⟨fun b hb _ => by
            rcases hb with rfl | rfl
            · exact Int.le_refl _
            · omega⟩
          clear h3
          go_wp2_with (fail)
          refine (less_any wr g n c d1 (2 * i + 2) (2 * i + 1) HI.out.row hn (by omega) (by omega)).mono ?_
          rintro e w1 ⟨rfl, q1⟩
          have H1 := Hd.mk (HI.out.frame q1 (by simp) (by simp))
          have F1 := Hd.mk (HF.out.trans q1 (by simp))
          clear q1 ml
          by_cases hlt : d1 (2 * i + 1) < d1 i
          · have hd : decide (d1 (2 * i + 1) < d1 i) = true := decide_eq_true hlt
            have ml2 := mLess w1 p _ H1.out.cell
            have HLT := Hd.mk hlt
            clear hlt
            go_wp2_with (fail)
            refine (less_any w1 g n c d1 (2 * i + 1) i H1.out.row hn (by omega) (by omega)).mono ?_
            rintro e w2 ⟨rfl, q2⟩
            have H2 := Hd.mk (H1.out.frame q2 (by simp) (by simp))
            have F2 := Hd.mk (F1.out.trans q2 (by simp))
            have ms := mSwap w2 p _ H2.out.cell
            clear q2 ml2
            go_wp2_with (fail)
            refine (swap_any w2 g n c d1 i (2 * i + 1) H2.out.row hn (by omega) (by omega)).mono ?_
            rintro e w3 ⟨rfl, r3, q3⟩
            have H3 : Hd (HR w3 p g n c (sw d1 i (2 * i + 1))) := ⟨⟨q3.blk H2.out.ptr (by simp; exact H2.out.ne), r3⟩⟩
            have F3 := Hd.mk (F2.out.trans q3 (by simp))
            clear r3 q3 ms
            go_wp2
            go_roundg (gk - 1)
            case measure => omega
            case rel => exact ⟨2 * i + 1, _, by go_num, by omega, by omega, by omega, H3, ⟨HD.out.step hlo (by unfold kid; omega) (by omega) (fun b hb hbn => HMIN.out b hb hbn) (by have := HLT.out; omega)⟩, ⟨(sw_perm (by omega) (by omega)).trans HP.out⟩, ⟨fun k hk => (sw_o d1 (by omega) (by omega)).trans (HK.out k hk)⟩, F3⟩
          · have hd : decide (d1 (2 * i + 1) < d1 i) = false := decide_eq_false hlt
            have ml2 := mLess w1 p _ H1.out.cell
            have HLT := Hd.mk hlt
            clear hlt
            go_wp2_with (fail)
            refine (less_any w1 g n c d1 (2 * i + 1) i H1.out.row hn (by omega) (by omega)).mono ?_
            rintro e w2 ⟨rfl, q2⟩
            have H2 := Hd.mk (H1.out.frame q2 (by simp) (by simp))
            have F2 := Hd.mk (F1.out.trans q2 (by simp))
            clear q2 ml2
            go_wp2
            go_ret
            unfold DnPost
            refine ⟨d1, _, rfl, H2.out, HD.out.done (fun b hb hbn => ?_), HP.out, HK.out, F2.out⟩
            have := HLT.out
            have := HMIN.out b hb hbn
            omega
      · have HMIN : Hd (∀ b, kid i b → b < m → d1 (2 * i + 1) ≤ d1 b) := ⟨fun b hb hbn => by
          rcases hb with rfl | rfl
          · exact Int.le_refl _
          · omega⟩
        by_cases hlt : d1 (2 * i + 1) < d1 i
        · have hd : decide (d1 (2 * i + 1) < d1 i) = true := decide_eq_true hlt
          have ml2 := mLess wr p _ HI.out.cell
          have HLT := Hd.mk hlt
          clear hlt
          go_wp2_with (fail)
          refine (less_any wr g n c d1 (2 * i + 1) i HI.out.row hn (by omega) (by omega)).mono ?_
          rintro e w2 ⟨rfl, q2⟩
          have H2 := Hd.mk (HI.out.frame q2 (by simp) (by simp))
          have F2 := Hd.mk (HF.out.trans q2 (by simp))
          have ms := mSwap w2 p _ H2.out.cell
          clear q2 ml2
          go_wp2_with (fail)
          refine (swap_any w2 g n c d1 i (2 * i + 1) H2.out.row hn (by omega) (by omega)).mono ?_
          rintro e w3 ⟨rfl, r3, q3⟩
          have H3 : Hd (HR w3 p g n c (sw d1 i (2 * i + 1))) := ⟨⟨q3.blk H2.out.ptr (by simp; exact H2.out.ne), r3⟩⟩
          have F3 := Hd.mk (F2.out.trans q3 (by simp))
          clear r3 q3 ms
          go_wp2
          go_roundg (gk - 1)
          case measure => omega
          case rel => exact ⟨2 * i + 1, _, by go_num, by omega, by omega, by omega, H3, ⟨HD.out.step hlo (by unfold kid; omega) (by omega) (fun b hb hbn => HMIN.out b hb hbn) (by have := HLT.out; omega)⟩, ⟨(sw_perm (by omega) (by omega)).trans HP.out⟩, ⟨fun k hk => (sw_o d1 (by omega) (by omega)).trans (HK.out k hk)⟩, F3⟩
        · have hd : decide (d1 (2 * i + 1) < d1 i) = false := decide_eq_false hlt
          have ml2 := mLess wr p _ HI.out.cell
          have HLT := Hd.mk hlt
          clear hlt
          go_wp2_with (fail)
          refine (less_any wr g n c d1 (2 * i + 1) i HI.out.row hn (by omega) (by omega)).mono ?_
          rintro e w2 ⟨rfl, q2⟩
          have H2 := Hd.mk (HI.out.frame q2 (by simp) (by simp))
          have F2 := Hd.mk (HF.out.trans q2 (by simp))
          clear q2 ml2
          go_wp2
          go_ret
          unfold DnPost
          refine ⟨d1, _, rfl, H2.out, HD.out.done (fun b hb hbn => ?_), HP.out, HK.out, F2.out⟩
          have := HLT.out
          have := HMIN.out b hb hbn
          omega
    · go_wp2
      go_ret
      unfold DnPost
      exact ⟨d1, _, rfl, HI.out, HD.out.done (fun b hb hbn => by unfold kid at hb; omega), HP.out, HK.out, HF.out⟩
set_option maxHeartbeats 4000000 in
theorem up_any (w : World) (p g n c : Nat) (d : Nat → Int) (j0 : Nat) (hH : HR w p g n c d) (hn : n ≤ 1099511627776) (hj : j0 < n) (hq : Up d n j0) :
    Calls Try.prog 43 #[.iface 46 (.pointer (some ⟨p, 0, none⟩)), .int .i64 (j0 : Nat)] w fun e w' => ∃ d', e = .returned (.tuple #[]) ∧ HR w' p g n c d' ∧ Hq d' n 0 ∧ (lst n d').Perm (lst n d) ∧ Fr w w' [g] := by
  have H := Hd.mk hH
  have HQ := Hd.mk hq
  clear hH hq
  go_enter Try.func43, Try.ntmps43
  go_wp2
  go_loopg [1] (j0 + 1) (fun kq jv wr => ∃ (j : Nat) (d1 : Nat → Int), jv = .int .i64 (j : Nat) ∧ j + 1 ≤ kq ∧ j < n ∧ Hd (HR wr p g n c d1) ∧ Hd (Up d1 n j) ∧ Hd ((lst n d1).Perm (lst n d)) ∧ Hd (Fr w wr [g]))
  case atStart => exact ⟨j0, d, rfl, by omega, hj, H, HQ, ⟨List.Perm.refl _⟩, ⟨Fr.refl _ _⟩⟩
  case round =>
    obtain ⟨j, d1, rfl, hk, hjn, HI, HU, HP, HF⟩ := hrel
    clear H HQ
    by_cases h0 : j = 0
    · subst h0
      go_wp2
      go_end0
      exact ⟨d1, rfl, HI.out, HU.out.done (fun a ha => by unfold kid at ha; omega), HP.out, HF.out⟩
    · have e1 : ((j : Int) - 1).tdiv 2 = ((j - 1) / 2 : Nat) := by
        rw [show ((j : Int) - 1) = ((j - 1 : Nat) : Int) by omega, Int.tdiv_eq_ediv_of_nonneg (by omega)]; omega
      have e2 : IntKind.i64.wrap ((j : Int) - 1) = (j : Int) - 1 := IntWalk.i64_in _ (by omega)
      obtain ⟨i, hi⟩ : ∃ i, i = (j - 1) / 2 := ⟨_, rfl⟩
      have hij : i < j := by omega
      have hkid : kid i j := by unfold kid; omega
      have HKID := Hd.mk hkid
      rw [← hi] at e1
      have hne : ((i : Int) == (j : Int)) = false := by simp; omega
      have ml := mLess wr p _ HI.out.cell
      clear hi hkid
      by_cases hlt : d1 j < d1 i
      · have hd : decide (d1 j < d1 i) = true := decide_eq_true hlt
        have HLT := Hd.mk hlt
        clear hlt
        go_wp2_with (fail)
        refine (less_any wr g n c d1 j i HI.out.row hn (by omega) (by omega)).mono ?_
        rintro e w2 ⟨rfl, q2⟩
        have H2 := Hd.mk (HI.out.frame q2 (by simp) (by simp))
        have F2 := Hd.mk (HF.out.trans q2 (by simp))
        have ms := mSwap w2 p _ H2.out.cell
        clear q2 ml
        go_wp2_with (fail)
        refine (swap_any w2 g n c d1 i j H2.out.row hn (by omega) (by omega)).mono ?_
        rintro e w3 ⟨rfl, r3, q3⟩
        have H3 : Hd (HR w3 p g n c (sw d1 i j)) := ⟨⟨q3.blk H2.out.ptr (by simp; exact H2.out.ne), r3⟩⟩
        have F3 := Hd.mk (F2.out.trans q3 (by simp))
        clear r3 q3 ms
        go_wp2
        go_roundg (gk - 1)
        case measure => omega
        case rel => exact ⟨i, _, rfl, by omega, by omega, H3, ⟨HU.out.step hjn HKID.out (by have := HLT.out; omega)⟩, ⟨(sw_perm (by omega) (by omega)).trans HP.out⟩, F3⟩
      · have hd : decide (d1 j < d1 i) = false := decide_eq_false hlt
        have HLT := Hd.mk hlt
        clear hlt
        go_wp2_with (fail)
        refine (less_any wr g n c d1 j i HI.out.row hn (by omega) (by omega)).mono ?_
        rintro e w2 ⟨rfl, q2⟩
        have H2 := Hd.mk (HI.out.frame q2 (by simp) (by simp))
        have F2 := Hd.mk (HF.out.trans q2 (by simp))
        clear q2 ml
        go_wp2
        go_end0
        refine ⟨d1, rfl, H2.out, HU.out.done (fun a ha => ?_), HP.out, F2.out⟩
        have e := HKID.out
        have : a = i := by unfold kid at ha e; omega
        subst this
        have := HLT.out
        omega
end Go.Proofs.Ytomiammdfiddbaa.Heap
