/- kinds and row (chapter 08): what they answer. Conditions: at most 2^40 lengths. -/
import Derived.Test.YtofajcifjmhomaaInts
import Derived.Test.YtofajcifjmhomaaRuns
set_option linter.unusedVariables false
set_option linter.unusedSimpArgs false
set_option maxRecDepth 100000
namespace Go.Proofs.Ytofajcifjmhomaa.Head
open Go.RowKit Go.Proofs.Ytofajcifjmhomaa.Lib Go.Proofs.Ytofajcifjmhomaa.Ints Go.Proofs.Ytofajcifjmhomaa.Runs

def enc (r : Int × Int) : List Value := [.int .i64 r.1, .int .i64 r.2]
def cells (rs : List (Int × Int)) : List Value := rs.flatMap enc
theorem cells_app (a b : List (Int × Int)) : cells (a ++ b) = cells a ++ cells b := by simp [cells]
theorem cells_len (a : List (Int × Int)) : (cells a).length = 2 * a.length := by
  induction a with
  | nil => rfl
  | cons x t ih => simp only [cells, List.flatMap_cons, List.length_append] at ih ⊢; rw [ih]; simp [enc]; omega
theorem cells_one (a : List (Int × Int)) : ∀ u ∈ cells a, u.oneCell' = true := by
  intro u hu
  simp only [cells, List.mem_flatMap, enc] at hu
  obtain ⟨r, _, h⟩ := hu
  simp at h
  rcases h with rfl | rfl <;> rfl
theorem infoRun : (Try.prog.info? 38).map (fun i => (i.zero, i.size, i.bytes)) = some (some (.agg #[.int .i64 0, .int .i64 0]), 2, 16) := by kernel_rfl
theorem kinds_16 (w : World) : Calls Try.prog 42 #[.int .i64 16] w fun e w' => e = .returned (.agg #[.int .i64 2, .int .i64 3, .int .i64 6]) ∧ Fr w w' [] := by
  go_enter Try.func42, Try.ntmps42
  go_wp2
  exact bodyPost_ret (v := .agg #[.int .i64 2, .int .i64 3, .int .i64 6]) (by simp [results, Try.results42, go_sem]) rfl ⟨rfl, ((Fr.refl _ _).alloc _).alloc _⟩
theorem kinds_17 (w : World) : Calls Try.prog 42 #[.int .i64 17] w fun e w' => e = .returned (.agg #[.int .i64 3, .int .i64 3, .int .i64 10]) ∧ Fr w w' [] := by
  go_enter Try.func42, Try.ntmps42
  go_wp2
  exact bodyPost_ret (v := .agg #[.int .i64 3, .int .i64 3, .int .i64 10]) (by simp [results, Try.results42, go_sem]) rfl ⟨rfl, ((Fr.refl _ _).alloc _).alloc _⟩
theorem kinds_18 (w : World) : Calls Try.prog 42 #[.int .i64 18] w fun e w' => e = .returned (.agg #[.int .i64 7, .int .i64 11, .int .i64 138]) ∧ Fr w w' [] := by
  go_enter Try.func42, Try.ntmps42
  go_wp2
  exact bodyPost_ret (v := .agg #[.int .i64 7, .int .i64 11, .int .i64 138]) (by simp [results, Try.results42, go_sem]) rfl ⟨rfl, ((Fr.refl _ _).alloc _).alloc _⟩
theorem row_any (w : World) (v : Int) (k : Nat) (h1 : 1 ≤ k) (h2 : k ≤ 1099511627776) :
    Calls Try.prog 41 #[.int .i64 v, .int .i64 (k : Nat)] w fun e w' => ∃ A n c, e = .returned (.slice A n c) ∧ w'.ownsRow 0 38 2 (.slice A n c) n (cells (rowOf v k)) ∧ (∀ j, (Value.slice A n c).ownBlock = some j → w.heap.size ≤ j) ∧ Fr w w' [] := by
  obtain ⟨i0, hi0, hz0, hz1, hz2⟩ := info_parts infoRun
  by_cases hv : v = 0
  · subst hv
    by_cases h11 : 11 ≤ k
    · by_cases h138 : 138 < k
      · have hr : Hd (rowOf 0 k = [(18, 138)]) := ⟨by unfold rowOf; rw [if_pos rfl, if_pos h11, show min k 138 = 138 from by omega]; rfl⟩
        go_enter Try.func41, Try.ntmps41
        go_wp2
        go_ret
        rw [hr.out]
        exact ⟨_, _, _, rfl, World.ownsRow_lit w #[.int .i64 18, .int .i64 138] 1 (Nat.zero_le _) (by decide) rfl, by intro j hj; cases hj; exact Nat.le_refl _, (Fr.refl _ _).alloc _⟩
      · have hr : Hd (rowOf 0 k = [(18, (k : Int))]) := ⟨by unfold rowOf; rw [if_pos rfl, if_pos h11, show min k 138 = k from by omega]⟩
        go_enter Try.func41, Try.ntmps41
        go_wp2
        go_ret
        rw [hr.out]
        exact ⟨_, _, _, rfl, World.ownsRow_lit w #[.int .i64 18, .int .i64 k] 1 (Nat.zero_le _) (by decide) rfl, by intro j hj; cases hj; exact Nat.le_refl _, (Fr.refl _ _).alloc _⟩
    · by_cases h3 : 3 ≤ k
      · have hr : Hd (rowOf 0 k = [(17, (k : Int))]) := ⟨by unfold rowOf; rw [if_pos rfl, if_neg h11, if_pos h3]⟩
        go_enter Try.func41, Try.ntmps41
        go_wp2
        go_ret
        rw [hr.out]
        exact ⟨_, _, _, rfl, World.ownsRow_lit w #[.int .i64 17, .int .i64 k] 1 (Nat.zero_le _) (by decide) rfl, by intro j hj; cases hj; exact Nat.le_refl _, (Fr.refl _ _).alloc _⟩
      · have hr : Hd (rowOf 0 k = [(0, 1)]) := ⟨by unfold rowOf; rw [if_pos rfl, if_neg h11, if_neg h3]⟩
        go_enter Try.func41, Try.ntmps41
        go_wp2
        go_ret
        rw [hr.out]
        exact ⟨_, _, _, rfl, World.ownsRow_lit w #[.int .i64 0, .int .i64 1] 1 (Nat.zero_le _) (by decide) rfl, by intro j hj; cases hj; exact Nat.le_refl _, (Fr.refl _ _).alloc _⟩
  · have hr : Hd (rowOf v k = (v, 1) :: sixes (k - 1) (k - 1)) := ⟨by unfold rowOf; rw [if_neg hv]⟩
    have hvb : (v == 0) = false := by simpa using hv
    go_enter Try.func41, Try.ntmps41
    go_wp2
    go_loopg [1, 5] k (fun kq kv sv wr => ∃ (j : Nat) (A : Option Addr) (n c : Nat) (P : List (Int × Int)), kv = .int .i64 (j : Nat) ∧ sv = .slice A n c ∧ j + n ≤ k ∧ j + 1 ≤ kq ∧ Hd (P ++ sixes j j = (v, 1) :: sixes (k - 1) (k - 1)) ∧ Hd (wr.ownsRow 0 38 2 (.slice A n c) n (cells P)) ∧ Hd (∀ j, (Value.slice A n c).ownBlock = some j → w.heap.size ≤ j) ∧ Hd (Fr w wr []))
    case atStart => exact ⟨k - 1, some ⟨w.heap.size, 0, none⟩, 1, 1, [(v, 1)], by go_num, rfl, by omega, by omega, ⟨rfl⟩, ⟨World.ownsRow_lit w #[.int .i64 v, .int .i64 1] 1 (Nat.zero_le _) (by decide) rfl⟩, ⟨by intro j hj; cases hj; exact Nat.le_refl _⟩, ⟨(Fr.refl _ _).alloc _⟩⟩
    case round =>
      obtain ⟨j, A, n, c, P, rfl, rfl, hjn, hjk, HP, HO, HB, HF⟩ := hrel
      by_cases h3 : 3 ≤ j
      · by_cases h6 : 6 < j
        · go_wp2_with (at_builtin; refine wpList_append_sl rfl (.tmp 33) (.tmp 36) 23 rfl 38 i0 (.agg #[.int .i64 0, .int .i64 0]) 2 16 Try.underlying23 hi0 hz0 hz1 hz2 rfl (by decide) (.slice A n c) n _ rfl (by exact HO.out.alloc _) (some ⟨wr.heap.size, 0, none⟩) 1 1 [.int .i64 16, .int .i64 6] (some wr.heap.size) rfl rfl (by exact sl_of_blk (blk_new _ _)) (by intro h; cases h) (by intro u hu; simp at hu; rcases hu with rfl | rfl <;> rfl) (by unfold maxLen; omega) (by omega) ?_; intro A' c' w1 hown' hgrow haft; have O1 := Hd.mk hown'; have G1 := Hd.mk hgrow; have F1 := Hd.mk haft; clear hown' hgrow haft)
          go_roundg (gk - 1)
          case measure => omega
          case rel =>
            refine ⟨j - 6, A', n + 1, c', P ++ [(16, 6)], by go_num, rfl, by omega, by omega, ⟨?_⟩, ⟨?_⟩, ⟨fun x hx => ?_⟩, ⟨(HF.out.alloc _).grown G1.out (fun x hx => .inr (HB.out x hx))⟩⟩
            · rw [← HP.out, sixes_step h3, show min j 6 = 6 from by omega, List.append_assoc]
              rfl
            · rw [cells_app]; exact O1.out
            · rcases F1.out with h | ⟨y, h, hy⟩
              · rw [← h] at HB; exact HB.out x hx
              · rw [h] at hx; cases hx
                have := HF.out.size
                simp at hy
                omega
        · go_wp2_with (at_builtin; refine wpList_append_sl rfl (.tmp 33) (.tmp 36) 23 rfl 38 i0 (.agg #[.int .i64 0, .int .i64 0]) 2 16 Try.underlying23 hi0 hz0 hz1 hz2 rfl (by decide) (.slice A n c) n _ rfl (by exact HO.out.alloc _) (some ⟨wr.heap.size, 0, none⟩) 1 1 [.int .i64 16, .int .i64 (j : Nat)] (some wr.heap.size) rfl rfl (by exact sl_of_blk (blk_new _ _)) (by intro h; cases h) (by intro u hu; simp at hu; rcases hu with rfl | rfl <;> rfl) (by unfold maxLen; omega) (by omega) ?_; intro A' c' w1 hown' hgrow haft; have O1 := Hd.mk hown'; have G1 := Hd.mk hgrow; have F1 := Hd.mk haft; clear hown' hgrow haft)
          go_roundg (gk - 1)
          case measure => omega
          case rel =>
            refine ⟨j - j, A', n + 1, c', P ++ [(16, (j : Int))], by go_num, rfl, by omega, by omega, ⟨?_⟩, ⟨?_⟩, ⟨fun x hx => ?_⟩, ⟨(HF.out.alloc _).grown G1.out (fun x hx => .inr (HB.out x hx))⟩⟩
            · rw [← HP.out, sixes_step h3, show min j 6 = j from by omega, List.append_assoc]
              rfl
            · rw [cells_app]; exact O1.out
            · rcases F1.out with h | ⟨y, h, hy⟩
              · rw [← h] at HB; exact HB.out x hx
              · rw [h] at hx; cases hx
                have := HF.out.size
                simp at hy
                omega
      · go_wp2
        go_ret
        have := HP.out
        rw [sixes_end (by omega), List.append_nil] at this
        rw [hr.out, ← this]
        exact ⟨A, n, c, rfl, HO.out, HB.out, HF.out⟩
end Go.Proofs.Ytofajcifjmhomaa.Head
