/- CodeMade's walk. No condition. -/
import Derived.Test.YtncjckhcellehaaCodeLives
set_option linter.unusedVariables false
set_option linter.unusedSimpArgs false
set_option maxRecDepth 100000
namespace Go.Proofs.Ytncjckhcellehaa.Code
open Go.RowKit Go.IntWalk Go.Proofs.Ytncjckhcellehaa.Lib Go.Proofs.Ytncjckhcellehaa.Ints Go.Proofs.Ytncjckhcellehaa.Num Go.Proofs.Ytncjckhcellehaa.Bits

/-- an encoder that no call made -/
def EnZ (w : World) (p : Option Addr) : Prop := p = none ∨ ∃ g, p = some ⟨g, 0, none⟩ ∧ w.heap[g]? = some (.cells #[.slice none 0 0, .slice none 0 0] 70 (0, 0))
/-- a decoder that no call made -/
def DeZ (w : World) (p : Option Addr) : Prop := p = none ∨ ∃ g, p = some ⟨g, 0, none⟩ ∧ w.cell? ⟨g, 0, none⟩ = some (.int .i64 0)
theorem put_made (w : World) (p : Option Addr) (h : EnZ w p) (gw : Nat) (s : Int) :
    Calls Try.prog 17 #[.pointer p, .pointer (some ⟨gw, 0, none⟩), .int .i64 s] w fun e w' => e = .returned (.int .i64 2) ∧ w = w' := by
  have n0 := fun w => Lib.run_eql_slice_nil (P := Try.prog) w 23 3 none 0 0 0 0 Try.underlying23
  go_enter Try.func17, Try.ntmps17
  rcases h with rfl | ⟨g, rfl, hb⟩
  · go_wp2
    go_ret
    exact ⟨rfl, rfl⟩
  · have c0 := blk_cell hb 0
    simp only [List.getElem?_toArray, List.getElem?_cons_zero] at c0
    clear hb
    go_wp2
    go_ret
    exact ⟨rfl, rfl⟩
theorem cost_made (w : World) (p : Option Addr) (h : EnZ w p) (s : Int) :
    Calls Try.prog 16 #[.pointer p, .int .i64 s] w fun e w' => e = .returned (.int .i64 0) ∧ w = w' := by
  go_enter Try.func16, Try.ntmps16
  rcases h with rfl | ⟨g, rfl, hb⟩
  · go_wp2
    go_ret
    exact ⟨rfl, rfl⟩
  · have c0 := blk_cell hb 0
    simp only [List.getElem?_toArray, List.getElem?_cons_zero] at c0
    clear hb
    by_cases hs : s < 0
    · go_wp2
      go_ret
      exact ⟨rfl, rfl⟩
    · have hs2 : s ≥ 0 := by omega
      go_wp2
      go_ret
      exact ⟨rfl, rfl⟩
theorem next_made (w : World) (p : Option Addr) (h : DeZ w p) (gr : Nat) :
    Calls Try.prog 29 #[.pointer p, .pointer (some ⟨gr, 0, none⟩)] w fun e w' => e = .returned (.tuple #[.int .i64 0, .bool false, .int .i64 2]) ∧ w = w' := by
  go_enter Try.func29, Try.ntmps29
  rcases h with rfl | ⟨g, rfl, c0⟩
  · go_wp2
    go_ret3
    exact ⟨rfl, rfl⟩
  · go_wp2
    go_ret3
    exact ⟨rfl, rfl⟩
theorem room_made (w : World) (p : Option Addr) (h : DeZ w p) :
    Calls Try.prog 23 #[.pointer p] w fun e w' => e = .returned (.int .i64 0) ∧ w = w' := by
  go_enter Try.func23, Try.ntmps23
  rcases h with rfl | ⟨g, rfl, c0⟩
  · go_wp2
    go_ret
    exact ⟨rfl, rfl⟩
  · go_wp2
    go_ret
    exact ⟨rfl, rfl⟩
theorem load_made (w : World) (p : Option Addr) (h : DeZ w p) (A : Option Addr) (n c : Nat) :
    Calls Try.prog 28 #[.pointer p, .slice A n c] w fun e w' => e = .returned (.int .i64 2) ∧ w = w' := by
  go_enter Try.func28, Try.ntmps28
  go_wp2_with (fail)
  go_step3
  rcases h with rfl | ⟨g, rfl, c0⟩
  · go_wp2
    try rw [Exit.noGoto_ret]
    go_ret
    exact ⟨rfl, rfl⟩
  · go_wp2
    try rw [Exit.noGoto_ret]
    go_ret
    exact ⟨rfl, rfl⟩
set_option maxHeartbeats 16000000 in
theorem made_walk (A : Option Addr) (n c : Nat) (lens : List Int) (q : Option Nat) (s : Int) (W : World) (hS : SlArg W A n c (i64s lens) q) (hw1 : ∀ x ∈ lens, (Lit.int .i64 x).wf = true) (hb1 : n * 8 ≤ 140737488351232) (hws : (Lit.int .i64 s).wf = true) :
    Calls Try.prog 7 #[.slice A n c, .int .i64 s] W fun e w' => e = .returned (.bool true) ∧ Below W.heap.size W w' := by
  clear hS hw1 hb1 hws
  have hz : ∀ w, (zeroValue 74).run Try.prog w = .ok (.agg (dec0 0)) w := fun _ => by kernel_rfl
  go_enter Try.func7, Try.ntmps7
  go_upto_region 4 with (fail)
  have E1 := blk_new W (.cells #[.slice none 0 0, .slice none 0 0] 70)
  have F1 := (Fr.refl W []).alloc (.cells #[.slice none 0 0, .slice none 0 0] 70)
  obtain ⟨ge, hge⟩ : ∃ ge, ge = W.heap.size := ⟨_, rfl⟩
  rw [← hge] at E1 ⊢
  generalize W.alloc (.cells #[.slice none 0 0, .slice none 0 0] 70) = w1 at *
  have HE1 := Hd.mk E1
  have HF1 := Hd.mk F1
  clear E1 F1 hge
  go_upto_region 5 with (fail)
  have D2 := Hd.mk (dec0_new w1 0)
  have A2 := (Fr.refl w1 []).alloc (.cells (dec0 0) 74)
  have HE2 := Hd.mk (A2.blk HE1.out (by simp))
  have HF2 := Hd.mk (HF1.out.trans A2 (by simp))
  clear A2 HE1 HF1
  generalize w1.alloc (.cells (dec0 0) 74) = w2 at *
  generalize w1.heap.size = gd at *
  go_upto_region 6 with (fail)
  have T3 := Hd.mk (tl_new w2 36 (by decide))
  have A3 := (Fr.refl w2 []).alloc (.cells #[.slice none 0 0, .int .i64 0] 36)
  have HE3 := Hd.mk (A3.blk HE2.out (by simp))
  have HF3 := Hd.mk (HF2.out.trans A3 (by simp))
  have D3 := Hd.mk (D2.out.frame A3 (by simp))
  clear A3 HE2 HF2 D2
  generalize w2.alloc (.cells #[.slice none 0 0, .int .i64 0] 36) = w3 at *
  generalize w2.heap.size = gw at *
  go_upto_region 7 with (fail)
  have R4 := Hd.mk (rd_new w3)
  have A4 := (Fr.refl w3 []).alloc (.cells #[.int .u64 0, .int .i64 0, .int .i64 0] 53)
  have HE4 := Hd.mk (A4.blk HE3.out (by simp))
  have HF4 := Hd.mk (HF3.out.trans A4 (by simp))
  have D4 := Hd.mk (D3.out.frame A4 (by simp))
  have T4 := Hd.mk (T3.out.frame A4 (by simp) (by simp))
  have hgr := Hd.mk HF3.out.size
  clear A4 HE3 HF3 D3 T3
  generalize w3.alloc (.cells #[.int .u64 0, .int .i64 0, .int .i64 0] 53) = w4 at *
  generalize w3.heap.size = gr at *
  go_wp2_with (fail)
  have B5 := blk_new w4 (.cells #[.int .u8 1, .int .u8 2] 5)
  have A5 := (Fr.refl w4 []).alloc (.cells #[.int .u8 1, .int .u8 2] 5)
  have S5 := Hd.mk (sl_of_blk B5)
  have HE5 := Hd.mk (A5.blk HE4.out (by simp))
  have HF5 := Hd.mk (HF4.out.trans A5 (by simp))
  have D5 := Hd.mk (D4.out.frame A5 (by simp))
  have T5 := Hd.mk (T4.out.frame A5 (by simp) (by simp))
  have R5 := Hd.mk (R4.out.frame A5 (by simp))
  have hne5 : Hd ((some w4.heap.size : Option Nat) ≠ some gr) := ⟨by intro e; cases e; exact Nat.lt_irrefl _ R4.out.lt⟩
  clear A5 B5 HE4 HF4 D4 T4 R4
  refine (feed_any _ (some ⟨w4.heap.size, 0, none⟩) 2 2 [1, 2] _ rfl (by simp) S5.out (by decide) (by decide) hne5.out 2 (by decide) R5.out).mono ?_
  rintro e w6 ⟨rfl, h1, h2⟩
  have R6 := Hd.mk h1
  have HE6 := Hd.mk (h2.blk HE5.out (by simp; exact blk_ne HE5.out R5.out.1 (by decide)))
  have D6 : Hd (De w6 gd 0 (fun _ => 0) (fun _ => 0) 0) := ⟨D5.out.frame h2 (by
    obtain ⟨cs, hb, _⟩ := D5.out.ex
    simp
    exact blk_ne hb R5.out.1 (by decide))⟩
  have T6 : Hd (Tl w6 gw 36 0 0 none) := ⟨T5.out.frame h2 (by
    obtain ⟨sv, hb, _⟩ := T5.out
    simp
    exact blk_ne hb R5.out.1 (by decide)) (by simp)⟩
  have HF6 : Hd (Fr W w6 []) := ⟨HF5.out.trans h2 (fun x hx hm => by simp at hm; have := hgr.out; omega)⟩
  clear h1 h2 HE5 HF5 D5 T5 R5 S5 hne5
  go_wp2_with (fail)
  have B7 := Hd.mk (blk_new w6 (.cells #[.pointer none, .pointer (some ⟨ge, 0, none⟩)] 26))
  have A7 := (Fr.refl w6 []).alloc (.cells #[.pointer none, .pointer (some ⟨ge, 0, none⟩)] 26)
  have HE7 := Hd.mk (A7.blk HE6.out (by simp))
  have HF7 := Hd.mk (HF6.out.trans A7 (by simp))
  have D7 := Hd.mk (D6.out.frame A7 (by simp))
  have T7 := Hd.mk (T6.out.frame A7 (by simp) (by simp))
  have R7 := Hd.mk (R6.out.frame A7 (by simp))
  clear A7 HE6 HF6 D6 T6 R6
  generalize w6.alloc (.cells #[.pointer none, .pointer (some ⟨ge, 0, none⟩)] 26) = w7 at *
  generalize w6.heap.size = g7 at *
  go_loopg [23] 2 (fun kq iv wr => ∃ i : Nat, iv = .int .i64 (i : Nat) ∧ i + kq = 2 ∧ wr = w7)
  case atStart => exact ⟨0, rfl, rfl, rfl⟩
  case round =>
    obtain ⟨i, rfl, hi, rfl⟩ := hrel
    by_cases hi2 : i < 2
    · obtain ⟨p, hp, hEZ⟩ : ∃ p, wr.cell? ⟨g7, i, none⟩ = some (.pointer p) ∧ EnZ wr p := by
        rcases (show i = 0 ∨ i = 1 by omega) with rfl | rfl
        · exact ⟨none, blk_cell B7.out 0, .inl rfl⟩
        · exact ⟨some ⟨ge, 0, none⟩, blk_cell B7.out 1, .inr ⟨ge, rfl, HE7.out⟩⟩
      have HZ := Hd.mk hEZ
      clear hEZ
      go_wp2_with (fail)
      refine (put_made wr p HZ.out gw s).mono ?_
      rintro e w' ⟨rfl, rfl⟩
      go_wp2_with (fail)
      refine (cost_made wr p HZ.out s).mono ?_
      rintro e w' ⟨rfl, rfl⟩
      go_wp2_with (fail)
      refine (len_any wr T7.out).mono ?_
      rintro e w' ⟨rfl, rfl⟩
      go_wp2
      go_roundg (gk - 1)
      case measure => omega
      case rel => exact ⟨i + 1, by go_num, by omega, rfl⟩
    · obtain rfl : i = 2 := by omega
      obtain ⟨w8, rfl⟩ : ∃ w8 : World, w8 = wr := ⟨_, rfl⟩
      go_wp2_with (fail)
      have B9 := Hd.mk (blk_new w8 (.cells #[.pointer none, .pointer (some ⟨gd, 0, none⟩)] 48))
      have A9 := (Fr.refl w8 []).alloc (.cells #[.pointer none, .pointer (some ⟨gd, 0, none⟩)] 48)
      have HF9 := Hd.mk (HF7.out.trans A9 (by simp))
      have D9 := Hd.mk (D7.out.frame A9 (by simp))
      have R9 := Hd.mk (R7.out.frame A9 (by simp))
      clear A9 HE7 HF7 D7 T7 R7 B7
      generalize w8.alloc (.cells #[.pointer none, .pointer (some ⟨gd, 0, none⟩)] 48) = w9 at *
      generalize w8.heap.size = g9 at *
      go_loopg [45] 2 (fun kq iv wr => ∃ i : Nat, iv = .int .i64 (i : Nat) ∧ i + kq = 2 ∧ wr = w9)
      case atStart => exact ⟨0, rfl, rfl, rfl⟩
      case round =>
        obtain ⟨i, rfl, hi, rfl⟩ := hrel
        by_cases hi2 : i < 2
        · obtain ⟨p, hp, hDZ⟩ : ∃ p, wr.cell? ⟨g9, i, none⟩ = some (.pointer p) ∧ DeZ wr p := by
            rcases (show i = 0 ∨ i = 1 by omega) with rfl | rfl
            · exact ⟨none, blk_cell B9.out 0, .inl rfl⟩
            · exact ⟨some ⟨gd, 0, none⟩, blk_cell B9.out 1, .inr ⟨gd, rfl, D9.out.c0⟩⟩
          have HZ := Hd.mk hDZ
          clear hDZ
          go_wp2_with (fail)
          refine (next_made wr p HZ.out gr).mono ?_
          rintro e w' ⟨rfl, rfl⟩
          go_wp2_with (fail)
          refine (load_made wr p HZ.out A n c).mono ?_
          rintro e w' ⟨rfl, rfl⟩
          go_wp2_with (fail)
          refine (room_made wr p HZ.out).mono ?_
          rintro e w' ⟨rfl, rfl⟩
          go_wp2_with (fail)
          refine (has_any wr R9.out).mono ?_
          rintro e w' ⟨rfl, rfl⟩
          go_wp2
          go_roundg (gk - 1)
          case measure => omega
          case rel => exact ⟨i + 1, by go_num, by omega, rfl⟩
        · obtain rfl : i = 2 := by omega
          go_wp2_with (fail)
          refine (clives_any wr).mono ?_
          rintro e w10 ⟨rfl, h3⟩
          have F10 := Hd.mk (HF9.out.trans h3 (by simp))
          clear h3
          go_wp2
          go_ret
          exact ⟨rfl, F10.out.below⟩
end Go.Proofs.Ytncjckhcellehaa.Code
