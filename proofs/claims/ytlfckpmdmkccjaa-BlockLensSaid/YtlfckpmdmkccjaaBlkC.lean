/- Chapter 09: the document's rows. No condition. -/
import Derived.Test.YtlfckpmdmkccjaaBlkB
set_option linter.unusedVariables false
set_option linter.unusedSimpArgs false
set_option maxRecDepth 100000
namespace Go.Proofs.Ytlfckpmdmkccjaa.Blk
open Go.RowKit Go.Proofs.Ytlfckpmdmkccjaa.Lib Go.Proofs.Ytlfckpmdmkccjaa.Ints
theorem infoBegin : (Try.prog.info? 45).map (fun i => (i.zero, i.size, i.bytes)) = some (some (.agg #[.int .i64 0, .int .i64 0]), 2, 16) := by kernel_rfl
theorem rcs_app (a b : List (Int × Int)) : rcs (a ++ b) = rcs a ++ rcs b := by simp [rcs]
theorem tab_take {l : List (Int × Int)} {j : Nat} (h : j < l.length) : rcs (l.take (j + 1)) = rcs (l.take j) ++ [.int .i64 l[j].1, .int .i64 l[j].2] := by
  rw [List.take_succ_eq_append_getElem h, rcs_app]; rfl
theorem wr_le {x m : Nat} (hx : x ≤ 40000) (hm : m ≤ 13) : wrap64 ((x : Int) + wrap64 (2 ^ m)) = ((x + 2 ^ m : Nat) : Int) := by
  have h1 : 2 ^ m ≤ 2 ^ 13 := Nat.pow_le_pow_right (by decide) hm
  have h2 : (2 : Int) ^ m = ((2 ^ m : Nat) : Int) := by rw [Int.natCast_pow]; rfl
  rw [h2]
  generalize 2 ^ m = y at *
  unfold wrap64
  omega
def RowsPost (w : World) (n : Nat) (l : List (Int × Int)) (e : Ending) (w' : World) : Prop :=
  ∃ A c, e = .returned (.slice A n c) ∧ w'.ownsRow 0 45 2 (.slice A n c) n (rcs l) ∧ Fr w w' []
def leLs : List Nat := [3, 4, 5, 6, 7, 8, 9, 10, 11, 13, 15, 17, 19, 23, 27, 31, 35, 43, 51, 59, 67, 83, 99, 115, 131, 163, 195, 227, 259]
def leDs : List Nat := [1, 2, 3, 4, 5, 7, 9, 13, 17, 25, 33, 49, 65, 97, 129, 193, 257, 385, 513, 769, 1025, 1537, 2049, 3073, 4097, 6145, 8193, 12289, 16385, 24577, 32769]
def moL (j : Nat) : Nat := if 8 ≤ j then (j - 4) / 4 else 0
def leL (j : Nat) : Nat := leLs.getD j 0
theorem leL_at : ∀ j, j < 28 → lenT.getD j (0, 0) = ((leL j : Int), (moL j : Int)) ∧ leL (j + 1) = leL j + 2 ^ moL j ∧ moL j ≤ 13 ∧ leL j ≤ 40000 := by decide
set_option maxHeartbeats 1000000 in
theorem rLens_any (w : World) : Calls Try.prog 20 #[] w (RowsPost w 29 lenT) := by
  obtain ⟨i0, hi0, hz0, hz1, hz2⟩ := info_parts infoBegin
  go_enter Try.func20, Try.ntmps20
  go_wp2
  go_loopg [1, 2, 3] 28 (fun kq sv lv jv wr => ∃ (j : Nat) (B : Option Addr) (d : Nat), jv = .int .i64 (j : Nat) ∧ lv = .int .i64 (leL j : Nat) ∧ sv = .slice B j d ∧ j + kq = 28 ∧ Hd (wr.ownsRow 0 45 2 (.slice B j d) j (rcs (lenT.take j))) ∧ Hd (∀ k, (Value.slice B j d).ownBlock = some k → w.heap.size ≤ k) ∧ Hd (Fr w wr []))
  case atStart => exact ⟨0, none, 0, rfl, rfl, rfl, by omega, ⟨own_nil _ _ _ _⟩, ⟨fun k hk => by simp [Value.ownBlock] at hk⟩, ⟨Fr.refl _ _⟩⟩
  case round =>
    obtain ⟨j, B, d, rfl, rfl, rfl, hj, HO, HB, HF⟩ := hrel
    by_cases h1 : j < 28
    · obtain ⟨f1, f2, f3, f4⟩ := leL_at j h1
      have f5 : rcs (lenT.take (j + 1)) = rcs (lenT.take j) ++ [.int .i64 (leL j : Nat), .int .i64 (moL j : Nat)] := by
        rw [tab_take (show j < lenT.length by simp [lenT]; omega)]
        have : lenT[j]'(by simp [lenT]; omega) = ((leL j : Int), (moL j : Int)) := by rw [← f1, List.getD_eq_getElem?_getD, List.getElem?_eq_getElem (by simp [lenT]; omega)]; rfl
        rw [this]
      have F2 := Hd.mk f2
      have F5 := Hd.mk f5
      clear f1 f2 f5
      obtain ⟨x, hx⟩ : ∃ x, x = leL j := ⟨_, rfl⟩
      obtain ⟨m, hm⟩ : ∃ m, m = moL j := ⟨_, rfl⟩
      rw [← hx, ← hm] at F5 F2
      rw [← hm] at f3
      rw [← hx] at f4 ⊢
      have HM := Hd.mk hm
      clear hx hm
      by_cases h2 : 8 ≤ j
      · have q1 : ((j : Int) - 4).tdiv 4 = (m : Int) := by rw [HM.out]; unfold moL; rw [if_pos h2, Int.tdiv_eq_ediv_of_nonneg (by omega)]; omega
        have q2 : ((j : Int) - 4) / 4 = (m : Int) := by rw [HM.out]; unfold moL; rw [if_pos h2]; omega
        go_wp2_with (at_builtin; refine wpList_append_sl rfl (.tmp 14) (.tmp 18) 46 rfl 45 i0 (.agg #[.int .i64 0, .int .i64 0]) 2 16 Try.underlying46 hi0 hz0 hz1 hz2 rfl (by decide) (.slice B j d) j _ rfl (by exact HO.out.alloc _) (some ⟨wr.heap.size, 0, none⟩) 1 1 [.int .i64 (x : Nat), .int .i64 (m : Nat)] (some wr.heap.size) rfl rfl (by exact sl_of_blk (blk_new _ _)) (by intro h; cases h) (by intro u hu; simp at hu; rcases hu with rfl | rfl <;> rfl) (by unfold maxLen; omega) (by omega) ?_; intro A' c' w1 hown' hgrow haft; have O1 := Hd.mk hown'; have G1 := Hd.mk hgrow; have F1 := Hd.mk haft; clear hown' hgrow haft)
        go_roundg (gk - 1)
        case measure => omega
        case rel =>
          refine ⟨j + 1, A', c', by go_num, by rw [F2.out, wr_le f4 f3], rfl, by omega, ⟨by rw [F5.out]; exact O1.out⟩, ⟨fun k hk => ?_⟩, ⟨(HF.out.alloc _).grown G1.out (fun k hk => .inr (HB.out k hk))⟩⟩
          rcases F1.out with h | ⟨z, h, hz⟩
          · rw [h] at hk; exact HB.out k hk
          · rw [h] at hk; cases hk
            have := HF.out.size
            simp at hz
            omega
      · have q1 : m = 0 := by rw [HM.out]; unfold moL; rw [if_neg h2]
        subst q1
        go_wp2_with (at_builtin; refine wpList_append_sl rfl (.tmp 14) (.tmp 18) 46 rfl 45 i0 (.agg #[.int .i64 0, .int .i64 0]) 2 16 Try.underlying46 hi0 hz0 hz1 hz2 rfl (by decide) (.slice B j d) j _ rfl (by exact HO.out.alloc _) (some ⟨wr.heap.size, 0, none⟩) 1 1 [.int .i64 (x : Nat), .int .i64 0] (some wr.heap.size) rfl rfl (by exact sl_of_blk (blk_new _ _)) (by intro h; cases h) (by intro u hu; simp at hu; rcases hu with rfl | rfl <;> rfl) (by unfold maxLen; omega) (by omega) ?_; intro A' c' w1 hown' hgrow haft; have O1 := Hd.mk hown'; have G1 := Hd.mk hgrow; have F1 := Hd.mk haft; clear hown' hgrow haft)
        go_roundg (gk - 1)
        case measure => omega
        case rel =>
          refine ⟨j + 1, A', c', by go_num, by rw [F2.out]; go_num, rfl, by omega, ⟨by rw [F5.out]; exact O1.out⟩, ⟨fun k hk => ?_⟩, ⟨(HF.out.alloc _).grown G1.out (fun k hk => .inr (HB.out k hk))⟩⟩
          rcases F1.out with h | ⟨z, h, hz⟩
          · rw [h] at hk; exact HB.out k hk
          · rw [h] at hk; cases hk
            have := HF.out.size
            simp at hz
            omega
    · obtain rfl : j = 28 := by omega
      generalize leL 28 = x at *
      go_wp2_with (at_builtin; refine wpList_append_sl rfl (.tmp 24) (.tmp 26) 46 rfl 45 i0 (.agg #[.int .i64 0, .int .i64 0]) 2 16 Try.underlying46 hi0 hz0 hz1 hz2 rfl (by decide) (.slice B 28 d) 28 _ rfl (by exact HO.out.alloc _) (some ⟨wr.heap.size, 0, none⟩) 1 1 [.int .i64 258, .int .i64 0] (some wr.heap.size) rfl rfl (by exact sl_of_blk (blk_new _ _)) (by intro h; cases h) (by intro u hu; simp at hu; rcases hu with rfl | rfl <;> rfl) (by unfold maxLen; omega) (by omega) ?_; intro A' c' w1 hown' hgrow haft; have O1 := Hd.mk hown'; have G1 := Hd.mk hgrow; have F1 := Hd.mk haft; clear hown' hgrow haft)
      go_ret
      unfold RowsPost
      exact ⟨A', c', rfl, by have := O1.out; exact this, (HF.out.alloc _).grown G1.out (fun k hk => .inr (HB.out k hk))⟩
def moD (j : Nat) : Nat := if 4 ≤ j then (j - 2) / 2 else 0
def leD (j : Nat) : Nat := leDs.getD j 0
theorem leD_at : ∀ j, j < 30 → distT.getD j (0, 0) = ((leD j : Int), (moD j : Int)) ∧ leD (j + 1) = leD j + 2 ^ moD j ∧ moD j ≤ 13 ∧ leD j ≤ 40000 := by decide
set_option maxHeartbeats 1000000 in
theorem rDists_any (w : World) : Calls Try.prog 22 #[] w (RowsPost w 30 distT) := by
  obtain ⟨i0, hi0, hz0, hz1, hz2⟩ := info_parts infoBegin
  go_enter Try.func22, Try.ntmps22
  go_wp2
  go_loopg [1, 2, 3] 30 (fun kq sv lv jv wr => ∃ (j : Nat) (B : Option Addr) (d : Nat), jv = .int .i64 (j : Nat) ∧ lv = .int .i64 (leD j : Nat) ∧ sv = .slice B j d ∧ j + kq = 30 ∧ Hd (wr.ownsRow 0 45 2 (.slice B j d) j (rcs (distT.take j))) ∧ Hd (∀ k, (Value.slice B j d).ownBlock = some k → w.heap.size ≤ k) ∧ Hd (Fr w wr []))
  case atStart => exact ⟨0, none, 0, rfl, rfl, rfl, by omega, ⟨own_nil _ _ _ _⟩, ⟨fun k hk => by simp [Value.ownBlock] at hk⟩, ⟨Fr.refl _ _⟩⟩
  case round =>
    obtain ⟨j, B, d, rfl, rfl, rfl, hj, HO, HB, HF⟩ := hrel
    by_cases h1 : j < 30
    · obtain ⟨f1, f2, f3, f4⟩ := leD_at j h1
      have f5 : rcs (distT.take (j + 1)) = rcs (distT.take j) ++ [.int .i64 (leD j : Nat), .int .i64 (moD j : Nat)] := by
        rw [tab_take (show j < distT.length by simp [distT]; omega)]
        have : distT[j]'(by simp [distT]; omega) = ((leD j : Int), (moD j : Int)) := by rw [← f1, List.getD_eq_getElem?_getD, List.getElem?_eq_getElem (by simp [distT]; omega)]; rfl
        rw [this]
      have F2 := Hd.mk f2
      have F5 := Hd.mk f5
      clear f1 f2 f5
      obtain ⟨x, hx⟩ : ∃ x, x = leD j := ⟨_, rfl⟩
      obtain ⟨m, hm⟩ : ∃ m, m = moD j := ⟨_, rfl⟩
      rw [← hx, ← hm] at F5 F2
      rw [← hm] at f3
      rw [← hx] at f4 ⊢
      have HM := Hd.mk hm
      clear hx hm
      by_cases h2 : 4 ≤ j
      · have q1 : ((j : Int) - 2).tdiv 2 = (m : Int) := by rw [HM.out]; unfold moD; rw [if_pos h2, Int.tdiv_eq_ediv_of_nonneg (by omega)]; omega
        have q2 : ((j : Int) - 2) / 2 = (m : Int) := by rw [HM.out]; unfold moD; rw [if_pos h2]; omega
        go_wp2_with (at_builtin; refine wpList_append_sl rfl (.tmp 14) (.tmp 18) 46 rfl 45 i0 (.agg #[.int .i64 0, .int .i64 0]) 2 16 Try.underlying46 hi0 hz0 hz1 hz2 rfl (by decide) (.slice B j d) j _ rfl (by exact HO.out.alloc _) (some ⟨wr.heap.size, 0, none⟩) 1 1 [.int .i64 (x : Nat), .int .i64 (m : Nat)] (some wr.heap.size) rfl rfl (by exact sl_of_blk (blk_new _ _)) (by intro h; cases h) (by intro u hu; simp at hu; rcases hu with rfl | rfl <;> rfl) (by unfold maxLen; omega) (by omega) ?_; intro A' c' w1 hown' hgrow haft; have O1 := Hd.mk hown'; have G1 := Hd.mk hgrow; have F1 := Hd.mk haft; clear hown' hgrow haft)
        go_roundg (gk - 1)
        case measure => omega
        case rel =>
          refine ⟨j + 1, A', c', by go_num, by rw [F2.out, wr_le f4 f3], rfl, by omega, ⟨by rw [F5.out]; exact O1.out⟩, ⟨fun k hk => ?_⟩, ⟨(HF.out.alloc _).grown G1.out (fun k hk => .inr (HB.out k hk))⟩⟩
          rcases F1.out with h | ⟨z, h, hz⟩
          · rw [h] at hk; exact HB.out k hk
          · rw [h] at hk; cases hk
            have := HF.out.size
            simp at hz
            omega
      · have q1 : m = 0 := by rw [HM.out]; unfold moD; rw [if_neg h2]
        subst q1
        go_wp2_with (at_builtin; refine wpList_append_sl rfl (.tmp 14) (.tmp 18) 46 rfl 45 i0 (.agg #[.int .i64 0, .int .i64 0]) 2 16 Try.underlying46 hi0 hz0 hz1 hz2 rfl (by decide) (.slice B j d) j _ rfl (by exact HO.out.alloc _) (some ⟨wr.heap.size, 0, none⟩) 1 1 [.int .i64 (x : Nat), .int .i64 0] (some wr.heap.size) rfl rfl (by exact sl_of_blk (blk_new _ _)) (by intro h; cases h) (by intro u hu; simp at hu; rcases hu with rfl | rfl <;> rfl) (by unfold maxLen; omega) (by omega) ?_; intro A' c' w1 hown' hgrow haft; have O1 := Hd.mk hown'; have G1 := Hd.mk hgrow; have F1 := Hd.mk haft; clear hown' hgrow haft)
        go_roundg (gk - 1)
        case measure => omega
        case rel =>
          refine ⟨j + 1, A', c', by go_num, by rw [F2.out]; go_num, rfl, by omega, ⟨by rw [F5.out]; exact O1.out⟩, ⟨fun k hk => ?_⟩, ⟨(HF.out.alloc _).grown G1.out (fun k hk => .inr (HB.out k hk))⟩⟩
          rcases F1.out with h | ⟨z, h, hz⟩
          · rw [h] at hk; exact HB.out k hk
          · rw [h] at hk; cases hk
            have := HF.out.size
            simp at hz
            omega
    · obtain rfl : j = 30 := by omega
      generalize leD 30 = x at *
      go_wp2
      go_ret
      unfold RowsPost
      exact ⟨B, d, rfl, by have := HO.out; exact this, HF.out⟩
end Go.Proofs.Ytlfckpmdmkccjaa.Blk
