/- Chapter 09: least values of symbols. No condition. -/
import Derived.Test.YtlfckpmdmkccjaaBlkE
set_option linter.unusedVariables false
set_option linter.unusedSimpArgs false
set_option maxRecDepth 100000
namespace Go.Proofs.Ytlfckpmdmkccjaa.Blk
open Go.RowKit Go.Proofs.Ytlfckpmdmkccjaa.Lib Go.Proofs.Ytlfckpmdmkccjaa.Ints
theorem lenIdx : ∀ i : Nat, i < 29 → ∀ W : World, (Instr.index 79 (.agg (rcs lenT).toArray) (.int .i64 (i : Nat))).run Try.prog W = .ok (.agg #[.int .i64 (lenT.getD i (0, 0)).1, .int .i64 (lenT.getD i (0, 0)).2]) W
  | 0, _, W => by kernel_rfl
  | 1, _, W => by kernel_rfl
  | 2, _, W => by kernel_rfl
  | 3, _, W => by kernel_rfl
  | 4, _, W => by kernel_rfl
  | 5, _, W => by kernel_rfl
  | 6, _, W => by kernel_rfl
  | 7, _, W => by kernel_rfl
  | 8, _, W => by kernel_rfl
  | 9, _, W => by kernel_rfl
  | 10, _, W => by kernel_rfl
  | 11, _, W => by kernel_rfl
  | 12, _, W => by kernel_rfl
  | 13, _, W => by kernel_rfl
  | 14, _, W => by kernel_rfl
  | 15, _, W => by kernel_rfl
  | 16, _, W => by kernel_rfl
  | 17, _, W => by kernel_rfl
  | 18, _, W => by kernel_rfl
  | 19, _, W => by kernel_rfl
  | 20, _, W => by kernel_rfl
  | 21, _, W => by kernel_rfl
  | 22, _, W => by kernel_rfl
  | 23, _, W => by kernel_rfl
  | 24, _, W => by kernel_rfl
  | 25, _, W => by kernel_rfl
  | 26, _, W => by kernel_rfl
  | 27, _, W => by kernel_rfl
  | 28, _, W => by kernel_rfl
  | k + 29, h, _ => absurd h (by omega)
theorem distIdx : ∀ i : Nat, i < 30 → ∀ W : World, (Instr.index 84 (.agg (rcs distT).toArray) (.int .i64 (i : Nat))).run Try.prog W = .ok (.agg #[.int .i64 (distT.getD i (0, 0)).1, .int .i64 (distT.getD i (0, 0)).2]) W
  | 0, _, W => by kernel_rfl
  | 1, _, W => by kernel_rfl
  | 2, _, W => by kernel_rfl
  | 3, _, W => by kernel_rfl
  | 4, _, W => by kernel_rfl
  | 5, _, W => by kernel_rfl
  | 6, _, W => by kernel_rfl
  | 7, _, W => by kernel_rfl
  | 8, _, W => by kernel_rfl
  | 9, _, W => by kernel_rfl
  | 10, _, W => by kernel_rfl
  | 11, _, W => by kernel_rfl
  | 12, _, W => by kernel_rfl
  | 13, _, W => by kernel_rfl
  | 14, _, W => by kernel_rfl
  | 15, _, W => by kernel_rfl
  | 16, _, W => by kernel_rfl
  | 17, _, W => by kernel_rfl
  | 18, _, W => by kernel_rfl
  | 19, _, W => by kernel_rfl
  | 20, _, W => by kernel_rfl
  | 21, _, W => by kernel_rfl
  | 22, _, W => by kernel_rfl
  | 23, _, W => by kernel_rfl
  | 24, _, W => by kernel_rfl
  | 25, _, W => by kernel_rfl
  | 26, _, W => by kernel_rfl
  | 27, _, W => by kernel_rfl
  | 28, _, W => by kernel_rfl
  | 29, _, W => by kernel_rfl
  | k + 30, h, _ => absurd h (by omega)
theorem lenIdx2 (n : Int) (h : 257 ≤ n) (h2 : n ≤ 285) : ∀ W : World, (Instr.index 79 (.agg (rcs lenT).toArray) (.int .i64 (n - 256 - 1))).run Try.prog W = .ok (.agg #[.int .i64 (lenT.getD (n - 257).toNat (0, 0)).1, .int .i64 (lenT.getD (n - 257).toNat (0, 0)).2]) W := by
  intro W
  have := lenIdx (n - 257).toNat (by omega) W
  rwa [show (((n - 257).toNat : Nat) : Int) = n - 256 - 1 from by omega] at this
theorem distIdx2 (n : Int) (h : 0 ≤ n) (h2 : n ≤ 29) : ∀ W : World, (Instr.index 84 (.agg (rcs distT).toArray) (.int .i64 n)).run Try.prog W = .ok (.agg #[.int .i64 (distT.getD n.toNat (0, 0)).1, .int .i64 (distT.getD n.toNat (0, 0)).2]) W := by
  intro W
  have := distIdx n.toNat (by omega) W
  rwa [show ((n.toNat : Nat) : Int) = n from by omega] at this
/-- the least value, how many more bits, the error -/
def ofN (l : List (Int × Int)) (base n : Int) : Int × Int × Int :=
  if n < base ∨ base + l.length ≤ n then (0, 0, 1) else ((l.getD (n - base).toNat (0, 0)).1, (l.getD (n - base).toNat (0, 0)).2, 0)
set_option maxHeartbeats 2000000 in
theorem lenOf_any (w : World) (n : Int) : Calls Try.prog 19 #[.int .i64 n] w fun e w' => e = .returned (.tuple #[.int .i64 (ofN lenT 257 n).1, .int .i64 (ofN lenT 257 n).2.1, .int .i64 (ofN lenT 257 n).2.2]) ∧ Fr w w' [] := by
  by_cases h : n < 257 ∨ 285 < n
  · have hs : Hd (ofN lenT 257 n = (0, 0, 1)) := ⟨by unfold ofN; rw [if_pos (by have : lenT.length = 29 := rfl; omega)]⟩
    go_enter Try.func19, Try.ntmps19
    by_cases h0 : n < 257
    · have h0 : n ≤ 256 := by omega
      clear h
      go_wp2
      go_ret3
      rw [hs.out]
      exact ⟨rfl, Fr.refl _ _⟩
    · obtain h := h.resolve_left h0
      have h0 : ¬ n ≤ 256 := by omega
      go_wp2
      go_ret3
      rw [hs.out]
      exact ⟨rfl, Fr.refl _ _⟩
  · have h1 : ¬ n ≤ 256 := by omega
    have h2 : n ≤ 285 := by omega
    have hs : Hd (ofN lenT 257 n = ((lenT.getD (n - 257).toNat (0, 0)).1, (lenT.getD (n - 257).toNat (0, 0)).2, 0)) := ⟨by unfold ofN; rw [if_neg (by have : lenT.length = 29 := rfl; omega)]⟩
    have hi := lenIdx2 n (by omega) h2
    clear h
    generalize lenT.getD (n - 257).toNat (0, 0) = x at *
    go_enter Try.func19, Try.ntmps19
    go_wp2_with (first
      | (go_at_call 32; refine (lenRows_any w).mono ?_; rintro e w1 ⟨rfl, hf⟩; have F1 := Hd.mk hf; clear hf))
    go_region
    go_wp2
    go_ret3
    rw [hs.out]
    exact ⟨rfl, (F1.out.alloc _).drew⟩
set_option maxHeartbeats 2000000 in
theorem distOf_any (w : World) (n : Int) : Calls Try.prog 21 #[.int .i64 n] w fun e w' => e = .returned (.tuple #[.int .i64 (ofN distT 0 n).1, .int .i64 (ofN distT 0 n).2.1, .int .i64 (ofN distT 0 n).2.2]) ∧ Fr w w' [] := by
  by_cases h : n < 0 ∨ 29 < n
  · have hs : Hd (ofN distT 0 n = (0, 0, 1)) := ⟨by unfold ofN; rw [if_pos (by have : distT.length = 30 := rfl; omega)]⟩
    go_enter Try.func21, Try.ntmps21
    by_cases h0 : n < 0
    · clear h
      go_wp2
      go_ret3
      rw [hs.out]
      exact ⟨rfl, Fr.refl _ _⟩
    · obtain h := h.resolve_left h0
      have h3 : n ≥ 30 := by omega
      go_wp2
      go_ret3
      rw [hs.out]
      exact ⟨rfl, Fr.refl _ _⟩
  · have h1 : 0 ≤ n := by omega
    have h2 : n ≤ 29 := by omega
    have hs : Hd (ofN distT 0 n = ((distT.getD n.toNat (0, 0)).1, (distT.getD n.toNat (0, 0)).2, 0)) := ⟨by unfold ofN; rw [if_neg (by have : distT.length = 30 := rfl; omega), Int.sub_zero]⟩
    have hi := distIdx2 n (by omega) h2
    clear h
    generalize distT.getD n.toNat (0, 0) = x at *
    go_enter Try.func21, Try.ntmps21
    go_wp2_with (first
      | (go_at_call 35; refine (distRows_any w).mono ?_; rintro e w1 ⟨rfl, hf⟩; have F1 := Hd.mk hf; clear hf))
    go_region
    go_wp2
    go_ret3
    rw [hs.out]
    exact ⟨rfl, (F1.out.alloc _).drew⟩
end Go.Proofs.Ytlfckpmdmkccjaa.Blk
