/- Chapter 09: the document's fifth example (lives), and BlockNames. No condition. -/
import Derived.Test.YtlfckpmdmkccjaaBlkN
import Derived.Test.YtlfckpmdmkccjaaBitsLives
import Derived.Test.YtlfckpmdmkccjaaMem
import Derived.Lib.SlBytesConst
set_option linter.unusedVariables false
set_option linter.unusedSimpArgs false
set_option maxRecDepth 100000
namespace Go.Proofs.Ytlfckpmdmkccjaa.Blk
open Go.RowKit Go.Proofs.Ytlfckpmdmkccjaa.Lib Go.Proofs.Ytlfckpmdmkccjaa.Ints Go.Proofs.Ytlfckpmdmkccjaa.Lz Go.Proofs.Ytlfckpmdmkccjaa.Num Go.Proofs.Ytlfckpmdmkccjaa.Bits Go.Proofs.Ytlfckpmdmkccjaa.Code
def ex5 : List Tok := [⟨97, 0, 0⟩]
theorem ex5_bits : totOf ([(lastN true, 1), (1, 2)] ++ bodyP plainLit plainDist ex5) = 18 ∧ numOf ([(lastN true, 1), (1, 2)] ++ bodyP plainLit plainDist ex5) = 0x044b := by decide +kernel
theorem ex5_may : mayB ex5 = 0 ∧ Lz.sizeOf ex5 = 1 := by decide
set_option maxHeartbeats 4000000 in
theorem blives_any (w : World) : Calls Try.prog 7 #[] w fun e w' => e = .returned (.bool true) ∧ Fr w w' [] := by
  have kc := fun (w : World) (C : Array Value) (n c : Nat) => Lib.run_convert_bytes_const (P := Try.prog) w 49 5 C n c Try.underlying49 Try.underlying5
  go_enter Try.func7, Try.ntmps7
  go_upto_region 2 with (fail)
  have T1 := Hd.mk (tl_new w 53 (by decide))
  have F1 := Hd.mk ((Fr.refl w []).alloc (.cells #[.slice none 0 0, .int .i64 0] 53))
  generalize hw1 : w.alloc (.cells #[.slice none 0 0, .int .i64 0] 53) = w1 at *
  have hgw : w.heap.size < w1.heap.size := by rw [← hw1]; simp
  clear hw1
  obtain ⟨gw, hg⟩ : ∃ gw, gw = w.heap.size := ⟨_, rfl⟩
  rw [← hg] at T1 hgw ⊢
  have hge : w.heap.size ≤ gw := by omega
  clear hg
  go_wp2_with (fail)
  have f2 := ((Fr.refl w1 []).alloc (.cells #[.int .u8 97] 5 (1, 2))).alloc (.cells #[.int .u8 97, .int .i64 0, .int .i64 0] 58)
  refine (write1_any _ true _ 1 1 (some ⟨w1.heap.size + 1, 0, none⟩) 1 1 ex5 (some (w1.heap.size + 1)) rfl (by exact sl_new2 w1 _ _ _) (by decide) (by intro t ht; simp [ex5] at ht; subst ht; exact ⟨by decide, by decide⟩) (by decide) gw 0 0 none (T1.out.frame f2 (by simp) (by simp)) (fun k hk => by cases hk; refine ⟨by simp; omega, by simp⟩) (by decide) 0 (by rw [ex5_may.1, ex5_may.2]; rfl)).mono ?_
  rintro e w3 ⟨rfl, h1, _⟩
  obtain ⟨q3, h3⟩ := h1 rfl
  have F3 : Hd (Fr w w3 []) := ⟨F1.out.trans (((f2.mono (G := [gw]) (fun k _ h => by cases h)).trans h3.fr (fun x _ hm => by simpa using hm))) (fun x hx hm => by simp at hm; omega)⟩
  have h3t := h3.tl
  rw [ex5_bits.1, ex5_bits.2] at h3t
  have T3 := Hd.mk h3t
  clear h1 h3 h3t f2
  go_wp2_with (fail)
  refine (bytes_any w3 (by decide) T3.out).mono ?_
  rintro e w4 ⟨v, rfl, h1, h2, h3⟩
  rw [show (0 + 18 + 7) / 8 = 3 from rfl, show bytesOf (0 + 0x044b * 2 ^ 0) (0 + 18) = [0x4b, 0x04, 0x00] from by decide] at h1
  obtain ⟨A, c, rfl, hc, _⟩ := own_slice h1
  have S4 := Hd.mk (sl_of_own h1)
  have NA := Hd.mk (fun h => own_none h1 h)
  have T4 := Hd.mk (T3.out.frame h3 (by simp) (by simp))
  have F4 := Hd.mk (F3.out.trans h3 (by simp))
  clear h1 h2 h3
  go_wp2_with (fail)
  refine (Bits.same_any _ A _ 3 3 c 3 [75, 4, 0] [75, 4, 0] _ _ rfl rfl (by decide) (by decide) (S4.out.alloc _) (by exact sl_of_blk (blk_new w4 _)) NA.out (by intro h; cases h)).mono ?_
  rintro e w5 ⟨rfl, rfl⟩
  have T5 := Hd.mk (T4.out.frame ((Fr.refl w4 []).alloc (.cells #[.int .u8 75, .int .u8 4, .int .u8 0] 5)) (by simp) (by simp))
  have F5 := Hd.mk (F4.out.alloc (.cells #[.int .u8 75, .int .u8 4, .int .u8 0] 5))
  rw [show decide ([(75 : Int), 4, 0] = [75, 4, 0]) = true from rfl]
  go_wp2_with (fail)
  refine (len_any _ T5.out).mono ?_
  rintro e w' ⟨rfl, rfl⟩
  go_wp2
  go_ret
  exact ⟨rfl, F5.out⟩
theorem bnames_any (w : World) : Calls Try.prog 3 #[] w fun e w' => e = .returned (.bool true) ∧ Below w.heap.size w w' := by
  go_enter Try.func3, Try.ntmps3
  go_wp2_with (go_at_call 7; refine (blives_any _).mono ?_; rintro e w1 ⟨rfl, h1⟩; have H1 := Hd.mk h1; clear h1)
  go_ret
  exact ⟨rfl, H1.out.below⟩
end Go.Proofs.Ytlfckpmdmkccjaa.Blk
