/- The document's first code goes there and back (lives), and CodeNames. No condition. -/
import Derived.Test.YtncjckhcellehaaCodeF
import Derived.Test.YtncjckhcellehaaBitsLives
set_option linter.unusedVariables false
set_option linter.unusedSimpArgs false
set_option maxRecDepth 100000
namespace Go.Proofs.Ytncjckhcellehaa.Code
open Go.RowKit Go.IntWalk Go.Proofs.Ytncjckhcellehaa.Lib Go.Proofs.Ytncjckhcellehaa.Ints Go.Proofs.Ytncjckhcellehaa.Num Go.Proofs.Ytncjckhcellehaa.Bits

def ex1 : List Int := [2, 1, 3, 3]
theorem ex1_check : check ex1 = 0 := by decide
theorem first_any (w : World) : Calls Try.prog 39 #[] w fun e w' => ∃ g, e = .returned (.slice (some ⟨g, 0, none⟩) 4 4) ∧ SlArg w' (some ⟨g, 0, none⟩) 4 4 (i64s ex1) (some g) ∧ w.heap.size ≤ g ∧ Fr w w' [] := by
  go_enter Try.func39, Try.ntmps39
  go_wp2
  go_ret
  exact ⟨_, rfl, ⟨rfl, Nat.le_refl _, by unfold maxLen; omega, fun h => by (cases h), sl_of_blk (blk_new w _), fun b hb => by (cases hb; exact blk_lt (blk_new w _))⟩, Nat.le_refl _, (Fr.refl w []).alloc _⟩
set_option maxHeartbeats 8000000 in
theorem clives_any (w : World) : Calls Try.prog 10 #[] w fun e w' => e = .returned (.bool true) ∧ Fr w w' [] := by
  go_enter Try.func10, Try.ntmps10
  go_wp2_with (fail)
  refine (first_any w).mono ?_
  rintro e w1 ⟨g1, rfl, h1, h2, h3⟩
  have S1 := Hd.mk h1
  have F1 := Hd.mk h3
  clear h1 h2 h3
  go_wp2_with (fail)
  refine (newenc_any w1 _ 4 4 ex1 _ S1.out 0 ex1_check.symm).mono ?_
  rintro e w2 ⟨p, rfl, h1, _, h3⟩
  obtain ⟨g, ga, da, B, db, L, rfl, hE, hg1, hg2, hg3⟩ := h3 rfl
  have E2 := Hd.mk hE
  have F2 := Hd.mk (F1.out.trans h1 (by simp))
  have NG : Hd (w.heap.size ≤ g ∧ w.heap.size ≤ ga) := ⟨by have := F1.out.size; omega⟩
  clear h1 h3 hE hg1 hg2 hg3
  go_wp2_with (fail)
  refine (newdec_ok w2 4 (by omega) (by omega)).mono ?_
  rintro e w3 ⟨gd, rfl, hD, hgd, h1⟩
  have D3 := Hd.mk hD
  have E3 := Hd.mk (E2.out.frame h1 (by simp))
  have F3 := Hd.mk (F2.out.trans h1 (by simp))
  have ND : Hd (w.heap.size ≤ gd) := ⟨by have := F2.out.size; omega⟩
  clear hD hgd h1 E2
  go_wp2_with (fail)
  refine (first_any w3).mono ?_
  rintro e w4 ⟨g4, rfl, h1, h2, h3⟩
  have S4 := Hd.mk h1
  have D4 := Hd.mk (D3.out.frame h3 (by simp))
  have E4 := Hd.mk (E3.out.frame h3 (by simp))
  have F4 := Hd.mk (F3.out.trans h3 (by simp))
  have hne4 : Hd (some g4 ≠ some gd) := ⟨by
    intro e
    cases e
    obtain ⟨cs, hb, _⟩ := D3.out.ex
    have := blk_lt hb
    omega⟩
  clear h1 h2 h3 D3 E3
  go_wp2_with (fail)
  refine (load_ok _ 4 4 ex1 _ S4.out hne4.out D4.out (by omega) (by omega) (by decide) ex1_check).mono ?_
  rintro e w5 ⟨rfl, h1, S', hD, hS⟩
  have D5 := Hd.mk hD
  have SY := Hd.mk hS
  have E5 : Hd (En w5 g ga da B db ex1 L) := ⟨E4.out.frame h1 (by
    obtain ⟨cs, hb, _⟩ := D4.out.ex
    have hbe := E4.out.blk
    refine ⟨?_, ?_, ?_⟩
    · simp; exact blk_ne hbe hb (by decide)
    · obtain ⟨ds, hds⟩ := own_type E4.out.lens_ (k := ga) rfl
      simp; exact blk_ne hds hb (by decide)
    · intro y hy hm
      obtain ⟨ds, hds⟩ := own_type E4.out.codes_ hy
      simp at hm
      exact blk_ne hds hb (by decide) hm)⟩
  have F5 : Hd (Fr w w5 []) := ⟨F4.out.trans h1 (fun x hx hm => by simp at hm; have := ND.out; omega)⟩
  clear h1 hD hS D4 E4
  go_upto_region 6 with (fail)
  have T6 := Hd.mk (tl_new w5 36 (by decide))
  have A6 := (Fr.refl w5 []).alloc (.cells #[.slice none 0 0, .int .i64 0] 36)
  have D6 := Hd.mk (D5.out.frame A6 (by simp))
  have E6 := Hd.mk (E5.out.frame A6 (by simp))
  have F6 := Hd.mk (F5.out.trans A6 (by simp))
  have NW : Hd (w.heap.size ≤ w5.heap.size) := ⟨F5.out.size⟩
  clear A6 D5 E5 F5
  generalize w5.alloc (.cells #[.slice none 0 0, .int .i64 0] 36) = w6 at *
  generalize w5.heap.size = gw at *
  have NE : Hd ((g ≠ gw ∧ ga ≠ gw ∧ (∀ y, (Value.slice B L.length db).ownBlock = some y → y ≠ gw) ∧ gd ≠ gw) ∧ g < w6.heap.size ∧ ga < w6.heap.size ∧ (∀ y, (Value.slice B L.length db).ownBlock = some y → y < w6.heap.size) ∧ gd < w6.heap.size ∧ gw < w6.heap.size) := ⟨by
    obtain ⟨cs, hb, _⟩ := D6.out.ex
    have hbe := E6.out.blk
    obtain ⟨sv, hbw, _⟩ := T6.out
    obtain ⟨ds, hds⟩ := own_type E6.out.lens_ (k := ga) rfl
    refine ⟨⟨blk_ne hbe hbw (by decide), blk_ne hds hbw (by decide), fun y hy => ?_, blk_ne hb hbw (by decide)⟩, blk_lt hbe, blk_lt hds, fun y hy => own_lt E6.out.codes_ hy, blk_lt hb, blk_lt hbw⟩
    obtain ⟨es, hes⟩ := own_type E6.out.codes_ hy
    exact blk_ne hes hbw (by decide)⟩
  go_wp2_with (fail)
  refine (put_some (w := w6) 2 3 6 (by decide) (by decide) (by decide) gw E6.out (by decide) T6.out).mono ?_
  rintro e w7 ⟨rfl, q7, t7, a7, f7⟩
  have hq7 : Hd (∀ y, q7 = some y → w6.heap.size ≤ y) := ⟨fun y hy => by
    rcases a7 with e | ⟨z, e, hz⟩
    · rw [e] at hy; cases hy
    · rw [e] at hy; cases hy; exact hz⟩
  have T7 := Hd.mk t7
  have E7 := Hd.mk (E6.out.frame f7 ⟨by simp; exact NE.out.1.1, by simp; exact NE.out.1.2.1, fun y hy => by simp; exact NE.out.1.2.2.1 y hy⟩)
  have D7 := Hd.mk (D6.out.frame f7 (by simp; exact NE.out.1.2.2.2))
  have F7 : Hd (Fr w w7 []) := ⟨F6.out.trans f7 (fun x hx hm => by simp at hm; have := NW.out; omega)⟩
  have hs7 := f7.size
  clear t7 a7 f7 E6 D6
  go_wp2_with (fail)
  refine (put_some (w := w7) 1 1 0 (by decide) (by decide) (by decide) gw E7.out (by decide) T7.out).mono ?_
  rintro e w8 ⟨rfl, q8, t8, a8, f8⟩
  have hq8 : Hd (∀ y, q8 = some y → w6.heap.size ≤ y) := ⟨fun y hy => by
    rcases a8 with e | ⟨z, e, hz⟩
    · rw [e] at hy; exact hq7.out y hy
    · rw [e] at hy; cases hy; omega⟩
  have T8 := Hd.mk t8
  have D8 := Hd.mk (D7.out.frame f8 (by
    intro hm
    rcases List.mem_cons.1 hm with e | hm
    · exact NE.out.1.2.2.2 e
    · have := hq7.out gd (by simpa using hm); have := NE.out.2.2.2.2.1; omega))
  have F8 : Hd (Fr w w8 []) := ⟨F7.out.trans f8 (fun x hx hm => by
    rcases List.mem_cons.1 hm with e | hm
    · have := NW.out; omega
    · have := hq7.out x (by simpa using hm); have := F6.out.size; omega)⟩
  have hs8 := f8.size
  clear t8 a8 f8 E7 D7
  go_wp2_with (fail)
  refine (len_any _ (by exact T8.out)).mono ?_
  rintro e w' ⟨rfl, rfl⟩
  go_upto_region 9 with (fail)
  have R9 := Hd.mk (rd_new w8)
  have A9 := (Fr.refl w8 []).alloc (.cells #[.int .u64 0, .int .i64 0, .int .i64 0] 53)
  have T9 := Hd.mk (T8.out.frame A9 (by simp) (by simp))
  have D9 := Hd.mk (D8.out.frame A9 (by simp))
  have F9 := Hd.mk (F8.out.trans A9 (by simp))
  have NR : Hd (w.heap.size ≤ w8.heap.size ∧ gd ≠ w8.heap.size) := ⟨by have := F8.out.size; have := NE.out.2.2.2.2.1; omega⟩
  clear A9 D8 T8 F8
  generalize w8.alloc (.cells #[.int .u64 0, .int .i64 0, .int .i64 0] 53) = w9 at *
  generalize w8.heap.size = gr at *
  go_wp2_with (fail)
  refine (bytes_any _ (by decide) T9.out).mono ?_
  rintro e w10 ⟨v, rfl, h1, h2, h3⟩
  have e5 : (0 + 3 + 1 + 7) / 8 = 1 := by decide
  have eb : bytesOf (0 + rv 6 3 * 2 ^ 0 + rv 0 1 * 2 ^ (0 + 3)) (0 + 3 + 1) = [3] := by decide
  rw [e5, eb] at h1
  obtain ⟨A, c, rfl, hc, _⟩ := own_slice h1
  have S10 := Hd.mk (sl_of_own h1)
  have R10 := Hd.mk (R9.out.frame h3 (by simp))
  have D10 := Hd.mk (D9.out.frame h3 (by simp))
  have F10 := Hd.mk (F9.out.trans h3 (by simp))
  have N10 : Hd ((Value.slice A 1 c).ownBlock ≠ some gr) := ⟨fun h => by
    have := h2.none h
    have := R9.out.lt
    omega⟩
  clear h1 h2 h3 e5 eb
  go_wp2_with (fail)
  refine (feed_any w10 A 1 c [3] _ rfl (by simp) S10.out hc (by decide) N10.out 1 (by decide) R10.out).mono ?_
  rintro e w11 ⟨rfl, h1, h2⟩
  have R11 := Hd.mk h1
  have D11 := Hd.mk (D10.out.frame h2 (by simp; exact NR.out.2))
  have F11 : Hd (Fr w w11 []) := ⟨F10.out.trans h2 (fun x hx hxG => by simp at hxG; have := NR.out; omega)⟩
  clear h1 h2
  have hS2 : S' 2 = 2 := SY.out 2 (by decide) 3 (by decide) (by decide)
  have hS0 : S' 0 = 1 := SY.out 1 (by decide) 1 (by decide) (by decide)
  have hFB : ∀ l, cz ex1 l ≤ 288 := fun l => Nat.le_trans (cz_le ex1 l) (by decide)
  go_wp2_with (fail)
  refine (next_any gr _ _ _ D11.out (by omega) (by decide) hFB (by decide) R11.out (by decide) NR.out.2 (1, 2, 3) (by decide) 2 0 true (by simp [hS2]) rfl rfl).mono ?_
  rintro e w12 ⟨rfl, h1, h2⟩
  have R12 := Hd.mk h1
  have D12 := Hd.mk (D11.out.frame h2 (by simp; exact NR.out.2))
  have F12 : Hd (Fr w w12 []) := ⟨F11.out.trans h2 (fun x hx hxG => by simp at hxG; have := NR.out; omega)⟩
  clear h1 h2
  go_wp2_with (fail)
  refine (next_any gr _ _ _ D12.out (by omega) (by decide) hFB (by decide) R12.out (by decide) NR.out.2 (1, 0, 1) (by decide) 1 0 true (by simp [hS0]) rfl rfl).mono ?_
  rintro e w13 ⟨rfl, h1, h2⟩
  have F13 : Hd (Fr w w13 []) := ⟨F12.out.trans h2 (fun x hx hxG => by simp at hxG; have := NR.out; omega)⟩
  clear h1 h2 hS2 hS0 hFB
  go_wp2
  go_ret
  exact ⟨rfl, F13.out⟩
theorem cnames_any (w : World) : Calls Try.prog 3 #[] w fun e w' => e = .returned (.bool true) ∧ Below w.heap.size w w' := by
  go_enter Try.func3, Try.ntmps3
  go_wp2_with (go_at_call 10; refine (clives_any _).mono ?_; rintro e w1 ⟨rfl, h1⟩; have H1 := Hd.mk h1; clear h1)
  go_ret
  exact ⟨rfl, H1.out.below⟩
end Go.Proofs.Ytncjckhcellehaa.Code
