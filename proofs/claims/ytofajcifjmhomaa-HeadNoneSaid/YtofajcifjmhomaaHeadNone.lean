/- HeadNone's walk. No condition. -/
import Derived.Test.YtofajcifjmhomaaHeadLaw
import Derived.Test.YtofajcifjmhomaaBitsR
set_option linter.unusedVariables false
set_option linter.unusedSimpArgs false
set_option maxRecDepth 100000
namespace Go.Proofs.Ytofajcifjmhomaa.Head
open Go.RowKit Go.IntWalk Go.Proofs.Ytofajcifjmhomaa.Bits Go.Proofs.Ytofajcifjmhomaa.Lib Go.Proofs.Ytofajcifjmhomaa.Ints Go.Proofs.Ytofajcifjmhomaa.Num

theorem rd_new0 (w : World) : Rd (w.alloc (.cells #[.int .u64 0, .int .i64 0, .int .i64 0] 55)) w.heap.size 0 0 0 := ⟨blk_new _ _, by decide, by decide⟩
def hd0 : Array Value := (Value.pointer none :: Value.nilFunc :: (List.replicate 23 (Value.int .i64 0) ++ [.slice none 0 0, .int .i64 0, .int .i64 0, .int .i64 0, .bool false, .bool false])).toArray
/-- a reader that no call made -/
def HdZ (w : World) (p : Option Addr) : Prop := p = none ∨ ∃ g, p = some ⟨g, 0, none⟩ ∧ w.heap[g]? = some (.cells hd0 51)
theorem HdZ.alloc {w : World} {p : Option Addr} (h : HdZ w p) (o : Obj) : HdZ (w.alloc o) p := by
  rcases h with rfl | ⟨g, rfl, c⟩
  · exact .inl rfl
  · exact .inr ⟨g, rfl, blk_alloc c o⟩
theorem HdZ.frame {w w' : World} {p : Option Addr} (h : HdZ w p) {F : List Nat} (hf : Fr w w' F) (hF : ∀ g cs, w.heap[g]? = some (.cells cs 51 (0, 0)) → g ∉ F) : HdZ w' p := by
  rcases h with rfl | ⟨g, rfl, c⟩
  · exact .inl rfl
  · exact .inr ⟨g, rfl, hf.blk c (hF g _ c)⟩
theorem HdZ.cell {w : World} {p : Option Addr} (h : HdZ w p) : p = none ∨ ∃ g, p = some ⟨g, 0, none⟩ ∧ w.cell? ⟨g, 0, none⟩ = some (.pointer none) := by
  rcases h with rfl | ⟨g, rfl, c⟩
  · exact .inl rfl
  · exact .inr ⟨g, rfl, by rw [blk_cell c]; rfl⟩
theorem step_none (w : World) (p : Option Addr) (h : HdZ w p) (gr : Nat) :
    Calls Try.prog 22 #[.pointer p, .pointer (some ⟨gr, 0, none⟩)] w fun e w' => e = .returned (.tuple #[.bool false, .int .i64 2]) ∧ w = w' := by
  go_enter Try.func22, Try.ntmps22
  rcases h.cell with rfl | ⟨g, rfl, c0⟩
  · go_wp2
    go_ret2
    exact ⟨rfl, rfl⟩
  · go_wp2
    go_ret2
    exact ⟨rfl, rfl⟩
theorem lens_none (w : World) (p : Option Addr) (h : HdZ w p) :
    Calls Try.prog 23 #[.pointer p] w fun e w' => e = .returned (.tuple #[.slice none 0 0, .slice none 0 0]) ∧ w = w' := by
  go_enter Try.func23, Try.ntmps23
  rcases h.cell with rfl | ⟨g, rfl, c0⟩
  · go_wp2
    go_ret2
    exact ⟨rfl, rfl⟩
  · go_wp2
    go_ret2
    exact ⟨rfl, rfl⟩
theorem room_none (w : World) (p : Option Addr) (h : HdZ w p) :
    Calls Try.prog 25 #[.pointer p] w fun e w' => e = .returned (.int .i64 0) ∧ w = w' := by
  go_enter Try.func25, Try.ntmps25
  rcases h.cell with rfl | ⟨g, rfl, c0⟩
  · go_wp2
    go_ret
    exact ⟨rfl, rfl⟩
  · go_wp2
    go_ret
    exact ⟨rfl, rfl⟩
theorem reset_none (w : World) (p : Option Addr) (h : HdZ w p) :
    Calls Try.prog 24 #[.pointer p] w fun e w' => e = .returned (.tuple #[]) ∧ w = w' := by
  go_enter Try.func24, Try.ntmps24
  rcases h.cell with rfl | ⟨g, rfl, c0⟩
  · go_wp2
    (try simp only [Exit.inBlock, Exit.then]); refine bodyPost_ret (results_none rfl _ _ _) rfl ?_
    exact ⟨rfl, rfl⟩
  · go_wp2
    (try simp only [Exit.inBlock, Exit.then]); refine bodyPost_ret (results_none rfl _ _ _) rfl ?_
    exact ⟨rfl, rfl⟩
set_option maxHeartbeats 16000000 in
theorem none_walk (b : Int) (W : World) (hb : (Lit.int .u8 b).wf = true) :
    Calls Try.prog 6 #[.int .u8 b] W fun e w' => e = .returned (.bool true) ∧ Below W.heap.size W w' := by
  have hbr : Hd (0 ≤ b ∧ b ≤ 255) := ⟨by simp [Lit.wf] at hb; exact ⟨hb.1, hb.2⟩⟩
  clear hb
  have hz : ∀ w, (zeroValue 51).run Try.prog w = .ok (.agg hd0) w := fun _ => by kernel_rfl
  go_enter Try.func6, Try.ntmps6
  go_upto_region 3 with (fail)
  have HZ1 : Hd ((W.alloc (.cells hd0 51)).cell? ⟨W.heap.size, 0, none⟩ = some (.pointer none)) := ⟨by rw [blk_cell (blk_new _ _)]; rfl⟩
  have F1 := Hd.mk ((Fr.refl W []).alloc (.cells hd0 51))
  have hg1 : W.heap.size < (W.alloc (.cells hd0 51)).heap.size := by simp
  have HW1 : Hd ((W.alloc (.cells hd0 51)).heap[W.heap.size]? = some (.cells hd0 51)) := ⟨blk_new _ _⟩
  clear HZ1 hz
  generalize W.alloc (.cells hd0 51) = w1 at *
  obtain ⟨gh, hgh⟩ : ∃ gh, gh = W.heap.size := ⟨_, rfl⟩
  rw [← hgh] at HW1 hg1 ⊢
  have HGH := Hd.mk hgh
  clear hgh
  go_wp2_with (fail)
  have B2 := Hd.mk (blk_new w1 (.cells #[.pointer none, .pointer (some ⟨gh, 0, none⟩)] 44))
  have A2 := (Fr.refl w1 []).alloc (.cells #[.pointer none, .pointer (some ⟨gh, 0, none⟩)] 44)
  have HW2 := Hd.mk (A2.blk HW1.out (by simp))
  have HF2 := Hd.mk (F1.out.trans A2 (by simp))
  clear A2 HW1 F1 hg1
  generalize w1.alloc (.cells #[.pointer none, .pointer (some ⟨gh, 0, none⟩)] 44) = w2 at *
  generalize w1.heap.size = gl at *
  go_loopg [15] 2 (fun kq iv wr => ∃ i : Nat, iv = .int .i64 (i : Nat) ∧ i + kq = 2 ∧ Hd (wr.heap[gl]? = some (.cells #[.pointer none, .pointer (some ⟨gh, 0, none⟩)] 44)) ∧ Hd (wr.heap[gh]? = some (.cells hd0 51)) ∧ Hd (Fr W wr []))
  case atStart => exact ⟨0, rfl, rfl, B2, HW2, HF2⟩
  case round =>
    obtain ⟨i, rfl, hi, HL, HH, HF⟩ := hrel
    by_cases hi2 : i < 2
    · obtain ⟨p, hp, hEZ⟩ : ∃ p, wr.cell? ⟨gl, i, none⟩ = some (.pointer p) ∧ HdZ wr p := by
        rcases (show i = 0 ∨ i = 1 by omega) with rfl | rfl
        · exact ⟨none, blk_cell HL.out 0, .inl rfl⟩
        · exact ⟨some ⟨gh, 0, none⟩, blk_cell HL.out 1, .inr ⟨gh, rfl, HH.out⟩⟩
      have HZ := Hd.mk hEZ
      clear hEZ
      go_upto_region 7 with (fail)
      have R3 := Hd.mk (rd_new0 wr)
      have A3 := (Fr.refl wr []).alloc (.cells #[.int .u64 0, .int .i64 0, .int .i64 0] 55)
      have HL3 := Hd.mk (A3.blk HL.out (by simp))
      have HH3 := Hd.mk (A3.blk HH.out (by simp))
      have HF3 := Hd.mk (HF.out.trans A3 (by simp))
      have HZ3 : Hd (HdZ (wr.alloc (.cells #[.int .u64 0, .int .i64 0, .int .i64 0] 55)) p) := ⟨HZ.out.alloc _⟩
      have hgr : Hd (W.heap.size ≤ wr.heap.size) := ⟨HF.out.size⟩
      clear A3 HL HH HF HZ
      generalize wr.alloc (.cells #[.int .u64 0, .int .i64 0, .int .i64 0] 55) = w3 at *
      generalize wr.heap.size = gr at *
      go_wp2_with (fail)
      have B4 := blk_new w3 (.cells #[.int .u8 b, .int .u8 b, .int .u8 b] 5)
      have A4 := (Fr.refl w3 []).alloc (.cells #[.int .u8 b, .int .u8 b, .int .u8 b] 5)
      have S4 := Hd.mk (sl_of_blk B4)
      have HL4 := Hd.mk (A4.blk HL3.out (by simp))
      have HH4 := Hd.mk (A4.blk HH3.out (by simp))
      have HF4 := Hd.mk (HF3.out.trans A4 (by simp))
      have HZ4 := Hd.mk (HZ3.out.alloc (.cells #[.int .u8 b, .int .u8 b, .int .u8 b] 5))
      have R4 := Hd.mk (R3.out.frame A4 (by simp))
      have hne4 : Hd ((some w3.heap.size : Option Nat) ≠ some gr) := ⟨by intro e; cases e; exact Nat.lt_irrefl _ R3.out.lt⟩
      clear A4 B4 HL3 HH3 HF3 HZ3 R3
      refine (feed_any _ (some ⟨w3.heap.size, 0, none⟩) 3 3 [b, b, b] _ rfl (by have := hbr.out; simp; exact this) S4.out (by simp) (by simp) hne4.out 3 (by simp) R4.out).mono ?_
      rintro e w5 ⟨rfl, h1, h2⟩
      have R5 := Hd.mk h1
      have HL5 := Hd.mk (h2.blk HL4.out (by simp; exact blk_ne HL4.out R4.out.1 (by decide)))
      have HH5 := Hd.mk (h2.blk HH4.out (by simp; exact blk_ne HH4.out R4.out.1 (by decide)))
      have HF5 : Hd (Fr W w5 []) := ⟨HF4.out.trans h2 (fun x hx hm => by simp at hm; have := hgr.out; omega)⟩
      have HZ5 : Hd (HdZ w5 p) := ⟨HZ4.out.frame h2 (by
        intro g cs hb
        simp
        exact blk_ne hb R4.out.1 (by decide))⟩
      clear h1 h2 HL4 HH4 HF4 HZ4 R4 S4 hne4
      go_wp2_with (fail)
      refine (step_none w5 p HZ5.out gr).mono ?_
      rintro e w' ⟨rfl, rfl⟩
      go_wp2_with (fail)
      refine (lens_none w5 p HZ5.out).mono ?_
      rintro e w' ⟨rfl, rfl⟩
      go_wp2_with (fail)
      refine (reset_none w5 p HZ5.out).mono ?_
      rintro e w' ⟨rfl, rfl⟩
      go_wp2_with (fail)
      refine (room_none w5 p HZ5.out).mono ?_
      rintro e w' ⟨rfl, rfl⟩
      go_wp2_with (fail)
      refine (taken_any w5 R5.out).mono ?_
      rintro e w' ⟨rfl, rfl⟩
      go_wp2
      go_roundg (gk - 1)
      case measure => omega
      case rel => exact ⟨i + 1, by go_num, by omega, HL5, HH5, HF5⟩
    · obtain rfl : i = 2 := by omega
      go_wp2_with (fail)
      refine (awake_any _).mono ?_
      rintro e w6 ⟨rfl, h3⟩
      have F6 := Hd.mk (HF.out.trans h3 (by simp))
      clear h3
      go_wp2
      go_ret
      exact ⟨rfl, F6.out.below⟩
end Go.Proofs.Ytofajcifjmhomaa.Head
