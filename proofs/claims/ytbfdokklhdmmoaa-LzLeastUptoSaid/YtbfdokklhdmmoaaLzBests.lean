/- LzBests' walk. Conditions: at most 2^40 bytes. -/
import Derived.Test.YtbfdokklhdmmoaaLzHelp
import Derived.Test.YtbfdokklhdmmoaaLend8
set_option linter.unusedVariables false
set_option linter.unusedSimpArgs false
set_option maxRecDepth 100000
namespace Go.Proofs.Ytbfdokklhdmmoaa.Lz
open Go.RowKit Go.Maps Go.Proofs.Ytbfdokklhdmmoaa.Lib Go.Proofs.Ytbfdokklhdmmoaa.Num Go.Proofs.Ytbfdokklhdmmoaa.Bits

/-- the part of what Lend gives -/
theorem lent_part {w : World} {g d n : Nat} {xs : List Int} (h : w.ownsRow 0 5 1 (.slice (some ⟨g, 0, none⟩) (n + 5) d) (n + 5) (u8s (xs ++ lendTail))) (hn : xs.length = n) : SlArg w (some ⟨g, 0, none⟩) n d (u8s xs) (some g) := by
  obtain ⟨_, _, e, h1, h2, _⟩ := own_slice h
  cases e
  have := (sl_of_own h).take n
  rw [u8s_app, List.take_left' (by simp [u8s]; exact hn)] at this
  exact ⟨by rw [u8s_length]; exact hn, by omega, h2, (by intro h; cases h), this, fun b hb => by cases hb; exact own_lt h rfl⟩
set_option maxHeartbeats 8000000 in
theorem bests_law (A : Option Addr) (n c : Nat) (xs : List Int) (q : Option Nat) (a1 : Int) (k : Opt) (W : World) (hS : SlArg W A n c (u8s xs) q) (hw : ∀ x ∈ xs, (Lit.int .u8 x).wf = true) (hb : n ≤ 1048576) (hv : (Lit.int .i64 a1).wf = true) :
    Calls Try.prog 8 #[.slice A n c, .int .i64 a1, .agg #[.int .i64 k.window, .int .i64 k.chain, .bool k.isLazy]] W fun e w' => e = .returned (.bool true) ∧ Below W.heap.size W w' := by
  have HS := Hd.mk hS
  have hl : xs.length = n := by have := hS.len; simpa [u8s] using this
  have HBy : Hd (Bytes xs) := ⟨fun x hx => bounds_u8 (hw x hx)⟩
  clear hS hw hv
  obtain ⟨r, hr⟩ : ∃ r, r = bestAll xs a1 k := ⟨_, rfl⟩
  have HR := Hd.mk hr
  clear hr
  have F0 := (Fr.refl W []).alloc (.cells #[.int .i64 k.window, .int .i64 k.chain, .bool k.isLazy] 44)
  have hk0 := blk_new W (.cells #[.int .i64 k.window, .int .i64 k.chain, .bool k.isLazy] 44)
  go_enter Try.func8, Try.ntmps8
  go_upto_region 1 with (fail)
  obtain ⟨kb, hkb⟩ : ∃ kb, kb = W.heap.size := ⟨_, rfl⟩
  rw [← hkb] at hk0 ⊢
  generalize hw0 : W.alloc (.cells #[.int .i64 k.window, .int .i64 k.chain, .bool k.isLazy] 44) = w0
  rw [hw0] at F0 hk0
  have HF0 := Hd.mk F0
  have HK0 := Hd.mk hk0
  clear F0 hk0 hw0 hkb
  go_wp2_with (fail)
  refine (lend_any w0 A n c xs q (HS.out.frame HF0.out (by simp)) (by omega)).mono ?_
  rintro e w1 ⟨g, d1, rfl, h1, h2, h3⟩
  have O1 := Hd.mk h1
  have F1 := Hd.mk (HF0.out.trans h3 (by simp))
  have K1 := Hd.mk (h3.blk HK0.out (by simp))
  have b0 := blk_cell K1.out 0
  have b1 := blk_cell K1.out 1
  have b2 := blk_cell K1.out 2
  simp only [List.getElem?_toArray, List.getElem?_cons_zero, List.getElem?_cons_succ] at b0 b1 b2
  clear h1 h2 h3
  go_wp2_with (fail)
  refine (look_any w1 k).mono ?_
  rintro e w2 ⟨rfl, h3⟩
  have O1 := Hd.mk (own_frame O1.out h3 (by simp))
  have F2 := Hd.mk (F1.out.trans h3 (by simp))
  have K2 := Hd.mk (h3.blk K1.out (by simp))
  clear h3 b0 b1 b2
  go_wp2_with (fail)
  refine (bestp_any w2 (some ⟨g, 0, none⟩) n d1 xs _ a1 k (by exact lent_part O1.out hl) HBy.out (by omega) r HR.out).mono ?_
  rintro e w3 ⟨rfl, h3⟩
  have O1 := Hd.mk (own_frame O1.out h3 (by simp))
  have F3 := Hd.mk (F2.out.trans h3 (by simp))
  have K3 := Hd.mk (h3.blk K2.out (by simp))
  have b0 := blk_cell K3.out 0
  have b1 := blk_cell K3.out 1
  have b2 := blk_cell K3.out 2
  simp only [List.getElem?_toArray, List.getElem?_cons_zero, List.getElem?_cons_succ] at b0 b1 b2
  clear h3
  go_wp2_with (fail)
  refine (rbest_any w3 A n c xs q a1 k (HS.out.frame F3.out (by simp)) (by omega) r HR.out).mono ?_
  rintro e w4 ⟨rfl, h3⟩
  have O1 := Hd.mk (own_frame O1.out h3 (by simp))
  have F4 := Hd.mk (F3.out.trans h3 (by simp))
  clear h3 b0 b1 b2
  obtain ⟨⟨r1, r2⟩, r3⟩ := r
  simp only
  have e1 : ((r1 : Int) == (r1 : Int)) = true := by simp
  have e2 : ((r2 : Int) == (r2 : Int)) = true := by simp
  have e3 : (r3 == r3) = true := by simp
  go_wp2_with (fail)
  refine (kept_any w4 A n c xs q (HS.out.frame F4.out (by simp)) (by omega) HBy.out (some ⟨g, 0, none⟩) (n + 5) d1 (xs ++ lendTail) _ (by rw [List.length_append, hl]; rfl) (by exact sl_of_own O1.out) (by intro h; cases h) (lend_range HBy.out) (by intro y hy; cases hy; exact own_lt O1.out rfl)).mono ?_
  rintro e w5 ⟨rfl, h3⟩
  rw [decide_eq_true rfl]
  have F5 := Hd.mk (F4.out.trans h3 (by simp))
  clear h3
  go_wp2_with (fail)
  refine (lives_any w5).mono ?_
  rintro e w6 ⟨rfl, h1⟩
  have F6 := Hd.mk (F5.out.trans h1 (by simp))
  clear h1
  go_wp2
  go_ret
  exact ⟨rfl, F6.out.below⟩
end Go.Proofs.Ytbfdokklhdmmoaa.Lz
