/- The document's first example goes so (lives), wherever it is asked. No condition. -/
import Derived.Test.YtpblcbfjlmekeaaBitsR
set_option linter.unusedVariables false
set_option linter.unusedSimpArgs false
namespace Go.Proofs.Ytpblcbfjlmekeaa.Bits
open Go.RowKit Go.Proofs.Ytpblcbfjlmekeaa.Lib Go.Proofs.Ytpblcbfjlmekeaa.Num

theorem tl_new (w : World) (T : TypeId) (hT : T ≠ 5) : Tl (w.alloc (.cells #[.slice none 0 0, .int .i64 0] T)) w.heap.size T 0 0 none :=
  ⟨.slice none 0 0, blk_new w _, own_nil _ _ _ _, rfl, by simp, hT⟩
theorem rd_new (w : World) : Rd (w.alloc (.cells #[.int .u64 0, .int .i64 0, .int .i64 0] 28)) w.heap.size 0 0 0 :=
  ⟨blk_new w _, by simp, by omega⟩

set_option maxHeartbeats 1000000 in
theorem lives_any (w : World) : Calls Try.prog 12 #[] w fun e w' => e = .returned (.bool true) ∧ Fr w w' [] := by
  go_enter Try.func12, Try.ntmps12
  go_wp2_with (fail)
  refine (put_ok (N := 0) (m := 0) (q := none) 5 3 5 _ rfl (by decide) (by decide) (by exact tl_new w _ (by decide))).mono ?_
  rintro e w1 ⟨rfl, q1, h1, h2, h3⟩
  have T1 := Hd.mk h1
  have A1 := Hd.mk h2
  have F1 : Hd (Fr w w1 []) := ⟨((Fr.refl w []).alloc _).trans (h3.mono (G := [w.heap.size]) (by simp)) (fun x hx hxG => by simp at hxG; omega)⟩
  have hs1 := h3.size
  simp only [World.size_alloc] at hs1
  clear h1 h2 h3
  go_wp2_with (fail)
  refine (put_ok (N := 0 + 5 * 2 ^ 0) (m := 0 + (3 : Int).toNat) (q := q1) 1 2 1 _ rfl (by decide) (by decide) (by exact T1.out)).mono ?_
  rintro e w2 ⟨rfl, q2, h1, h2, h3⟩
  have T2 := Hd.mk h1
  have A2 := Hd.mk (A1.out.trans h2 (by simp; omega))
  have F2 : Hd (Fr w w2 []) := ⟨F1.out.trans h3 (fun x hx hxG => by
    rcases List.mem_cons.1 hxG with rfl | hxG
    · omega
    · rcases A1.out.mem hxG with h | h
      · simp at h
      · simp at h; omega)⟩
  have hs2 := h3.size
  clear h1 h2 h3
  go_wp2_with (fail)
  refine (len_any _ (by exact T2.out)).mono ?_
  rintro e w' ⟨rfl, rfl⟩
  go_wp2_with (fail)
  refine (bytes_any _ (by decide) (T2.out.frame ((Fr.refl w2 []).alloc _) (by simp) (by simp))).mono ?_
  rintro e w3 ⟨v, rfl, h1, h2, h3⟩
  have e5 : (0 + Int.toNat 3 + Int.toNat 2 + 7) / 8 = 1 := by decide
  have eb : bytesOf (0 + 5 * 2 ^ 0 + 1 * 2 ^ (0 + Int.toNat 3)) (0 + Int.toNat 3 + Int.toNat 2) = [13] := by decide
  rw [e5, eb] at h1
  obtain ⟨A, c, rfl, hc, _⟩ := own_slice h1
  have S3 := Hd.mk (sl_of_own h1)
  have R3 := Hd.mk ((rd_new w2).frame h3 (by simp))
  have F3 : Hd (Fr w w3 []) := ⟨(F2.out.alloc _).trans h3 (by simp)⟩
  have hs3 := h3.size
  simp only [World.size_alloc] at hs3
  have N3 : Hd ((Value.slice A 1 c).ownBlock ≠ some w2.heap.size) := ⟨fun h => by
    have := h2.none h
    simp only [World.size_alloc] at this; omega⟩
  clear h1 h2 h3 e5 eb
  go_wp2_with (fail)
  refine (feed_any w3 A 1 c [13] _ rfl (by simp) S3.out hc (by decide) N3.out 1 (by decide) R3.out).mono ?_
  rintro e w4 ⟨rfl, h1, h2⟩
  have R4 := Hd.mk h1
  have F4 : Hd (Fr w w4 []) := ⟨F3.out.trans h2 (fun x hx hxG => by simp at hxG; omega)⟩
  clear h1 h2
  go_wp2_with (fail)
  refine (take_ok w4 3 (by decide) (by decide) (by decide) (by decide) R4.out).mono ?_
  rintro e w5 ⟨rfl, h1, h2⟩
  have R5 := Hd.mk h1
  have F5 : Hd (Fr w w5 []) := ⟨F4.out.trans h2 (fun x hx hxG => by simp at hxG; omega)⟩
  clear h1 h2
  rw [show (0 + valB (List.take 1 [13]) * 2 ^ 0) % 2 ^ Int.toNat 3 = 5 from by decide]
  go_wp2_with (fail)
  refine (has_any w5 R5.out).mono ?_
  rintro e w' ⟨rfl, rfl⟩
  go_wp2
  go_ret
  exact ⟨rfl, F5.out⟩
/-- the errors' numbers, and the example. -/
theorem names_any (w : World) : Calls Try.prog 4 #[] w fun e w' => e = .returned (.bool true) ∧ Below w.heap.size w w' := by
  go_enter Try.func4, Try.ntmps4
  go_wp2_with (go_at_call 12; refine (lives_any _).mono ?_; rintro e w1 ⟨rfl, h1⟩; have H1 := Hd.mk h1; clear h1)
  go_ret
  exact ⟨rfl, H1.out.below⟩
end Go.Proofs.Ytpblcbfjlmekeaa.Bits
