import Derived.Test.YtkdgfioigkijgaaGreatW01
import Derived.Test.YtkdgfioigkijgaaGreatW04
import Derived.WalkKit
import Derived.Laws.BitsLemmas
import Derived.OpenShut
set_option linter.unusedVariables false
set_option linter.unusedSimpArgs false
set_option maxRecDepth 100000
namespace Go.Proofs.YtkdgfioigkijgaaGreat.Blk
open Go.RowKit Go.Proofs.YtkdgfioigkijgaaGreat.Lib Go.Proofs.YtkdgfioigkijgaaGreat.Ints
theorem infoBegin : (Tryz.prog.info? 246).map (fun i => (i.zero, i.size, i.bytes)) = some (some (.agg #[.int .i64 0, .int .i64 0]), 2, 16) := by kernel_rfl
theorem rcs_app (a b : List (Int × Int)) : rcs (a ++ b) = rcs a ++ rcs b := by simp [rcs]
theorem tab_take {l : List (Int × Int)} {j : Nat} (h : j < l.length) : rcs (l.take (j + 1)) = rcs (l.take j) ++ [.int .i64 l[j].1, .int .i64 l[j].2] := by
  rw [List.take_succ_eq_append_getElem h, rcs_app]; rfl
theorem wr_le {x m : Nat} (hx : x ≤ 40000) (hm : m ≤ 13) : wrap64 ((x : Int) + wrap64 (2 ^ m)) = ((x + 2 ^ m : Nat) : Int) := by
  have h1 : 2 ^ m ≤ 2 ^ 13 := Nat.pow_le_pow_right (by decide) hm
  have h2 : (2 : Int) ^ m = ((2 ^ m : Nat) : Int) := by rw [Int.natCast_pow]; rfl
  rw [h2]
  generalize 2 ^ m = y at *
  unfold wrap64
  omega
def RowsPost (w : World) (n : Nat) (l : List (Int × Int)) (e : Ending) (w' : World) : Prop :=
  ∃ A c, e = .returned (.slice A n c) ∧ w'.ownsRow 0 246 2 (.slice A n c) n (rcs l) ∧ Fr w w' []
def leLs : List Nat := [3, 4, 5, 6, 7, 8, 9, 10, 11, 13, 15, 17, 19, 23, 27, 31, 35, 43, 51, 59, 67, 83, 99, 115, 131, 163, 195, 227, 259]
def leDs : List Nat := [1, 2, 3, 4, 5, 7, 9, 13, 17, 25, 33, 49, 65, 97, 129, 193, 257, 385, 513, 769, 1025, 1537, 2049, 3073, 4097, 6145, 8193, 12289, 16385, 24577, 32769]
def moL (j : Nat) : Nat := if 8 ≤ j then (j - 4) / 4 else 0
def leL (j : Nat) : Nat := leLs.getD j 0
theorem leL_at : ∀ j, j < 28 → lenT.getD j (0, 0) = ((leL j : Int), (moL j : Int)) ∧ leL (j + 1) = leL j + 2 ^ moL j ∧ moL j ≤ 13 ∧ leL j ≤ 40000 := by decide
set_option maxHeartbeats 1000000 in
theorem rLens_any (w : World) : Calls Tryz.prog 143 #[] w (RowsPost w 29 lenT) := by
  obtain ⟨i0, hi0, hz0, hz1, hz2⟩ := info_parts infoBegin
  go_enter Tryz.func143, Tryz.ntmps143
  go_wp2
  go_loopg [1, 2, 3] 28 (fun kq sv lv jv wr => ∃ (j : Nat) (B : Option Addr) (d : Nat), jv = .int .i64 (j : Nat) ∧ lv = .int .i64 (leL j : Nat) ∧ sv = .slice B j d ∧ j + kq = 28 ∧ Hd (wr.ownsRow 0 246 2 (.slice B j d) j (rcs (lenT.take j))) ∧ Hd (∀ k, (Value.slice B j d).ownBlock = some k → w.heap.size ≤ k) ∧ Hd (Fr w wr []))
  case atStart => exact ⟨0, none, 0, rfl, rfl, rfl, by omega, ⟨own_nil _ _ _ _⟩, ⟨fun k hk => by simp [Value.ownBlock] at hk⟩, ⟨Fr.refl _ _⟩⟩
  case round =>
    obtain ⟨j, B, d, rfl, rfl, rfl, hj, HO, HB, HF⟩ := hrel
    by_cases h1 : j < 28
    · obtain ⟨f1, f2, f3, f4⟩ := leL_at j h1
      have f5 : rcs (lenT.take (j + 1)) = rcs (lenT.take j) ++ [.int .i64 (leL j : Nat), .int .i64 (moL j : Nat)] := by
        rw [tab_take (show j < lenT.length by simp [lenT]; omega)]
        have : lenT[j]'(by simp [lenT]; omega) = ((leL j : Int), (moL j : Int)) := by rw [← f1, List.getD_eq_getElem?_getD, List.getElem?_eq_getElem (by simp [lenT]; omega)]; rfl
        rw [this]
      have F2 := Hd.mk f2
      have F5 := Hd.mk f5
      clear f1 f2 f5
      obtain ⟨x, hx⟩ : ∃ x, x = leL j := ⟨_, rfl⟩
      obtain ⟨m, hm⟩ : ∃ m, m = moL j := ⟨_, rfl⟩
      rw [← hx, ← hm] at F5 F2
      rw [← hm] at f3
      rw [← hx] at f4 ⊢
      have HM := Hd.mk hm
      clear hx hm
      by_cases h2 : 8 ≤ j
      · have q1 : ((j : Int) - 4).tdiv 4 = (m : Int) := by rw [HM.out]; unfold moL; rw [if_pos h2, Int.tdiv_eq_ediv_of_nonneg (by omega)]; omega
        have q2 : ((j : Int) - 4) / 4 = (m : Int) := by rw [HM.out]; unfold moL; rw [if_pos h2]; omega
        go_wp2_with (at_builtin; refine wpList_append_sl rfl (.tmp 14) (.tmp 18) 242 rfl 246 i0 (.agg #[.int .i64 0, .int .i64 0]) 2 16 Tryz.underlying242 hi0 hz0 hz1 hz2 rfl (by decide) (.slice B j d) j _ rfl (by exact HO.out.alloc _) (some ⟨wr.heap.size, 0, none⟩) 1 1 [.int .i64 (x : Nat), .int .i64 (m : Nat)] (some wr.heap.size) rfl rfl (by exact sl_of_blk (blk_new _ _)) (by intro h; cases h) (by intro u hu; simp at hu; rcases hu with rfl | rfl <;> rfl) (by unfold maxLen; omega) (by omega) ?_; intro A' c' w1 hown' hgrow haft; have O1 := Hd.mk hown'; have G1 := Hd.mk hgrow; have F1 := Hd.mk haft; clear hown' hgrow haft)
        go_roundg (gk - 1)
        case measure => omega
        case rel =>
          refine ⟨j + 1, A', c', by go_num, by rw [F2.out, wr_le f4 f3], rfl, by omega, ⟨by rw [F5.out]; exact O1.out⟩, ⟨fun k hk => ?_⟩, ⟨(HF.out.alloc _).grown G1.out (fun k hk => .inr (HB.out k hk))⟩⟩
          rcases F1.out with h | ⟨z, h, hz⟩
          · rw [h] at hk; exact HB.out k hk
          · rw [h] at hk; cases hk
            have := HF.out.size
            simp at hz
            omega
      · have q1 : m = 0 := by rw [HM.out]; unfold moL; rw [if_neg h2]
        subst q1
        go_wp2_with (at_builtin; refine wpList_append_sl rfl (.tmp 14) (.tmp 18) 242 rfl 246 i0 (.agg #[.int .i64 0, .int .i64 0]) 2 16 Tryz.underlying242 hi0 hz0 hz1 hz2 rfl (by decide) (.slice B j d) j _ rfl (by exact HO.out.alloc _) (some ⟨wr.heap.size, 0, none⟩) 1 1 [.int .i64 (x : Nat), .int .i64 0] (some wr.heap.size) rfl rfl (by exact sl_of_blk (blk_new _ _)) (by intro h; cases h) (by intro u hu; simp at hu; rcases hu with rfl | rfl <;> rfl) (by unfold maxLen; omega) (by omega) ?_; intro A' c' w1 hown' hgrow haft; have O1 := Hd.mk hown'; have G1 := Hd.mk hgrow; have F1 := Hd.mk haft; clear hown' hgrow haft)
        go_roundg (gk - 1)
        case measure => omega
        case rel =>
          refine ⟨j + 1, A', c', by go_num, by rw [F2.out]; go_num, rfl, by omega, ⟨by rw [F5.out]; exact O1.out⟩, ⟨fun k hk => ?_⟩, ⟨(HF.out.alloc _).grown G1.out (fun k hk => .inr (HB.out k hk))⟩⟩
          rcases F1.out with h | ⟨z, h, hz⟩
          · rw [h] at hk; exact HB.out k hk
          · rw [h] at hk; cases hk
            have := HF.out.size
            simp at hz
            omega
    · obtain rfl : j = 28 := by omega
      generalize leL 28 = x at *
      go_wp2_with (at_builtin; refine wpList_append_sl rfl (.tmp 24) (.tmp 26) 242 rfl 246 i0 (.agg #[.int .i64 0, .int .i64 0]) 2 16 Tryz.underlying242 hi0 hz0 hz1 hz2 rfl (by decide) (.slice B 28 d) 28 _ rfl (by exact HO.out.alloc _) (some ⟨wr.heap.size, 0, none⟩) 1 1 [.int .i64 258, .int .i64 0] (some wr.heap.size) rfl rfl (by exact sl_of_blk (blk_new _ _)) (by intro h; cases h) (by intro u hu; simp at hu; rcases hu with rfl | rfl <;> rfl) (by unfold maxLen; omega) (by omega) ?_; intro A' c' w1 hown' hgrow haft; have O1 := Hd.mk hown'; have G1 := Hd.mk hgrow; have F1 := Hd.mk haft; clear hown' hgrow haft)
      go_ret
      unfold RowsPost
      exact ⟨A', c', rfl, by have := O1.out; exact this, (HF.out.alloc _).grown G1.out (fun k hk => .inr (HB.out k hk))⟩
def moD (j : Nat) : Nat := if 4 ≤ j then (j - 2) / 2 else 0
def leD (j : Nat) : Nat := leDs.getD j 0
theorem leD_at : ∀ j, j < 30 → distT.getD j (0, 0) = ((leD j : Int), (moD j : Int)) ∧ leD (j + 1) = leD j + 2 ^ moD j ∧ moD j ≤ 13 ∧ leD j ≤ 40000 := by decide
set_option maxHeartbeats 1000000 in
theorem rDists_any (w : World) : Calls Tryz.prog 145 #[] w (RowsPost w 30 distT) := by
  obtain ⟨i0, hi0, hz0, hz1, hz2⟩ := info_parts infoBegin
  go_enter Tryz.func145, Tryz.ntmps145
  go_wp2
  go_loopg [1, 2, 3] 30 (fun kq sv lv jv wr => ∃ (j : Nat) (B : Option Addr) (d : Nat), jv = .int .i64 (j : Nat) ∧ lv = .int .i64 (leD j : Nat) ∧ sv = .slice B j d ∧ j + kq = 30 ∧ Hd (wr.ownsRow 0 246 2 (.slice B j d) j (rcs (distT.take j))) ∧ Hd (∀ k, (Value.slice B j d).ownBlock = some k → w.heap.size ≤ k) ∧ Hd (Fr w wr []))
  case atStart => exact ⟨0, none, 0, rfl, rfl, rfl, by omega, ⟨own_nil _ _ _ _⟩, ⟨fun k hk => by simp [Value.ownBlock] at hk⟩, ⟨Fr.refl _ _⟩⟩
  case round =>
    obtain ⟨j, B, d, rfl, rfl, rfl, hj, HO, HB, HF⟩ := hrel
    by_cases h1 : j < 30
    · obtain ⟨f1, f2, f3, f4⟩ := leD_at j h1
      have f5 : rcs (distT.take (j + 1)) = rcs (distT.take j) ++ [.int .i64 (leD j : Nat), .int .i64 (moD j : Nat)] := by
        rw [tab_take (show j < distT.length by simp [distT]; omega)]
        have : distT[j]'(by simp [distT]; omega) = ((leD j : Int), (moD j : Int)) := by rw [← f1, List.getD_eq_getElem?_getD, List.getElem?_eq_getElem (by simp [distT]; omega)]; rfl
        rw [this]
      have F2 := Hd.mk f2
      have F5 := Hd.mk f5
      clear f1 f2 f5
      obtain ⟨x, hx⟩ : ∃ x, x = leD j := ⟨_, rfl⟩
      obtain ⟨m, hm⟩ : ∃ m, m = moD j := ⟨_, rfl⟩
      rw [← hx, ← hm] at F5 F2
      rw [← hm] at f3
      rw [← hx] at f4 ⊢
      have HM := Hd.mk hm
      clear hx hm
      by_cases h2 : 4 ≤ j
      · have q1 : ((j : Int) - 2).tdiv 2 = (m : Int) := by rw [HM.out]; unfold moD; rw [if_pos h2, Int.tdiv_eq_ediv_of_nonneg (by omega)]; omega
        have q2 : ((j : Int) - 2) / 2 = (m : Int) := by rw [HM.out]; unfold moD; rw [if_pos h2]; omega
        go_wp2_with (at_builtin; refine wpList_append_sl rfl (.tmp 14) (.tmp 18) 242 rfl 246 i0 (.agg #[.int .i64 0, .int .i64 0]) 2 16 Tryz.underlying242 hi0 hz0 hz1 hz2 rfl (by decide) (.slice B j d) j _ rfl (by exact HO.out.alloc _) (some ⟨wr.heap.size, 0, none⟩) 1 1 [.int .i64 (x : Nat), .int .i64 (m : Nat)] (some wr.heap.size) rfl rfl (by exact sl_of_blk (blk_new _ _)) (by intro h; cases h) (by intro u hu; simp at hu; rcases hu with rfl | rfl <;> rfl) (by unfold maxLen; omega) (by omega) ?_; intro A' c' w1 hown' hgrow haft; have O1 := Hd.mk hown'; have G1 := Hd.mk hgrow; have F1 := Hd.mk haft; clear hown' hgrow haft)
        go_roundg (gk - 1)
        case measure => omega
        case rel =>
          refine ⟨j + 1, A', c', by go_num, by rw [F2.out, wr_le f4 f3], rfl, by omega, ⟨by rw [F5.out]; exact O1.out⟩, ⟨fun k hk => ?_⟩, ⟨(HF.out.alloc _).grown G1.out (fun k hk => .inr (HB.out k hk))⟩⟩
          rcases F1.out with h | ⟨z, h, hz⟩
          · rw [h] at hk; exact HB.out k hk
          · rw [h] at hk; cases hk
            have := HF.out.size
            simp at hz
            omega
      · have q1 : m = 0 := by rw [HM.out]; unfold moD; rw [if_neg h2]
        subst q1
        go_wp2_with (at_builtin; refine wpList_append_sl rfl (.tmp 14) (.tmp 18) 242 rfl 246 i0 (.agg #[.int .i64 0, .int .i64 0]) 2 16 Tryz.underlying242 hi0 hz0 hz1 hz2 rfl (by decide) (.slice B j d) j _ rfl (by exact HO.out.alloc _) (some ⟨wr.heap.size, 0, none⟩) 1 1 [.int .i64 (x : Nat), .int .i64 0] (some wr.heap.size) rfl rfl (by exact sl_of_blk (blk_new _ _)) (by intro h; cases h) (by intro u hu; simp at hu; rcases hu with rfl | rfl <;> rfl) (by unfold maxLen; omega) (by omega) ?_; intro A' c' w1 hown' hgrow haft; have O1 := Hd.mk hown'; have G1 := Hd.mk hgrow; have F1 := Hd.mk haft; clear hown' hgrow haft)
        go_roundg (gk - 1)
        case measure => omega
        case rel =>
          refine ⟨j + 1, A', c', by go_num, by rw [F2.out]; go_num, rfl, by omega, ⟨by rw [F5.out]; exact O1.out⟩, ⟨fun k hk => ?_⟩, ⟨(HF.out.alloc _).grown G1.out (fun k hk => .inr (HB.out k hk))⟩⟩
          rcases F1.out with h | ⟨z, h, hz⟩
          · rw [h] at hk; exact HB.out k hk
          · rw [h] at hk; cases hk
            have := HF.out.size
            simp at hz
            omega
    · obtain rfl : j = 30 := by omega
      generalize leD 30 = x at *
      go_wp2
      go_ret
      unfold RowsPost
      exact ⟨B, d, rfl, by have := HO.out; exact this, HF.out⟩
end Go.Proofs.YtkdgfioigkijgaaGreat.Blk
set_option linter.unusedVariables false
set_option linter.unusedSimpArgs false
set_option maxRecDepth 100000
namespace Go.Proofs.YtkdgfioigkijgaaGreat.Blk
open Go.RowKit Go.Proofs.YtkdgfioigkijgaaGreat.Lib Go.Proofs.YtkdgfioigkijgaaGreat.Ints
def symN (l : List (Int × Int)) (base lo hi n : Int) : Int × Int × Int × Int :=
  if n < lo ∨ hi < n then (0, 0, 0, 1) else (base + (plc l n l.length : Nat), (l.getD (plc l n l.length) (0, 0)).2, n - (l.getD (plc l n l.length) (0, 0)).1, 0)
theorem lenT_le : ∀ i, i < 29 → 0 ≤ (lenT.getD i (0, 0)).1 ∧ (lenT.getD i (0, 0)).1 ≤ 258 ∧ 0 ≤ (lenT.getD i (0, 0)).2 ∧ (lenT.getD i (0, 0)).2 ≤ 5 := by decide
theorem results_tmp4 {fn : Func} {t u v x : Tmp} (h : fn.results = #[.tmp t, .tmp u, .tmp v, .tmp x]) (tmps : Array Value) (P : Program) (w : World) :
    (results fn tmps).run P w = .ok (.tuple #[tmps.getD t undef, tmps.getD u undef, tmps.getD v undef, tmps.getD x undef]) w := by
  simp [results, h]
set_option maxHeartbeats 2000000 in
theorem lenSymbol_any (w : World) (n : Int) : Calls Tryz.prog 117 #[.int .i64 n] w fun e w' => e = .returned (.tuple #[.int .i64 (symN lenT 257 3 258 n).1, .int .i64 (symN lenT 257 3 258 n).2.1, .int .i64 (symN lenT 257 3 258 n).2.2.1, .int .i64 (symN lenT 257 3 258 n).2.2.2]) ∧ Fr w w' [] := by
  by_cases h : n < 3 ∨ 258 < n
  · have hs : Hd (symN lenT 257 3 258 n = (0, 0, 0, 1)) := ⟨by unfold symN; rw [if_pos h]⟩
    go_enter Tryz.func117, Tryz.ntmps117
    by_cases h0 : n < 3
    · clear h
      go_wp2
      refine bodyPost_ret (results_tmp4 rfl _ _ _) rfl ?_
      rw [hs.out]
      exact ⟨rfl, Fr.refl _ _⟩
    · obtain h := h.resolve_left h0
      go_wp2
      refine bodyPost_ret (results_tmp4 rfl _ _ _) rfl ?_
      rw [hs.out]
      exact ⟨rfl, Fr.refl _ _⟩
  · have h1 : 3 ≤ n := by omega
    have h2 : n ≤ 258 := by omega
    clear h
    go_enter Tryz.func117, Tryz.ntmps117
    go_upto_region 4 with (first
      | (go_at_call 163; refine (lenRows_any w).mono ?_; rintro e w1 ⟨rfl, hf⟩; have F1 := Hd.mk hf; clear hf)
      | (refine wpList_store_row rfl 277 _ _ rfl w1.heap.size (rcs lenT).toArray rfl rfl 277 _ (by exact blk_new w1 _) (by kernel_rfl) (by kernel_rfl) (by kernel_rfl) ?_))
    obtain ⟨w2, hw2⟩ : ∃ w2, w2 = (w1.alloc (.cells #[.int .i64 0, .int .i64 0, .int .i64 0, .int .i64 0, .int .i64 0, .int .i64 0, .int .i64 0, .int .i64 0, .int .i64 0, .int .i64 0, .int .i64 0, .int .i64 0, .int .i64 0, .int .i64 0, .int .i64 0, .int .i64 0, .int .i64 0, .int .i64 0, .int .i64 0, .int .i64 0, .int .i64 0, .int .i64 0, .int .i64 0, .int .i64 0, .int .i64 0, .int .i64 0, .int .i64 0, .int .i64 0, .int .i64 0, .int .i64 0, .int .i64 0, .int .i64 0, .int .i64 0, .int .i64 0, .int .i64 0, .int .i64 0, .int .i64 0, .int .i64 0, .int .i64 0, .int .i64 0, .int .i64 0, .int .i64 0, .int .i64 0, .int .i64 0, .int .i64 0, .int .i64 0, .int .i64 0, .int .i64 0, .int .i64 0, .int .i64 0, .int .i64 0, .int .i64 0, .int .i64 0, .int .i64 0, .int .i64 0, .int .i64 0, .int .i64 0, .int .i64 0] 277)).setRow w1.heap.size (rcs lenT).toArray := ⟨_, rfl⟩
    have HB : Hd (w2.heap[w1.heap.size]? = some (.cells (rcs lenT).toArray 277 (0, 0))) := ⟨by rw [hw2]; exact setRow_heap _ _ _ _ _ _ (blk_new w1 _)⟩
    have F2 : Hd (Fr w w2 []) := ⟨by rw [hw2]; exact Code.Fr.setRow (F1.out.alloc _) _ (.inr F1.out.size)⟩
    rw [← hw2]
    clear hw2
    generalize w1.heap.size = g at *
    have SL := Hd.mk (sl_of_blk HB.out)
    go_wp2_with (fail)
    refine (place_any w2 (some ⟨g, 0, none⟩) 29 29 lenT (some g) n rfl SL.out (by decide)).mono ?_
    rintro e w3 ⟨rfl, h3⟩
    have F3 := Hd.mk (F2.out.trans h3 (by simp))
    have HB3 := Hd.mk (h3.blk HB.out (by simp))
    clear h3 HB SL F2
    obtain ⟨i, hi⟩ : ∃ i, i = plc lenT n 29 := ⟨_, rfl⟩
    have hi29 : i < 29 := by rw [hi]; exact plc_lt lenT n 29 (by decide)
    have hs : Hd (symN lenT 257 3 258 n = (257 + ((i : Nat) : Int), (lenT.getD i (0, 0)).2, n - (lenT.getD i (0, 0)).1, 0)) := ⟨by unfold symN; rw [if_neg (by omega), show lenT.length = 29 from rfl, ← hi]⟩
    rw [← hi]
    have hx := lenT_le i hi29
    obtain ⟨b0, o0, e1, _, hc⟩ := Sl.row (enc := rc) (sz := 2) (fun _ => rfl) (sl_of_blk HB3.out) (show i < lenT.length from hi29) (by decide)
    cases e1
    have hg : ∀ j : Nat, (rc (lenT[i]'hi29))[j]? = (rc (lenT.getD i (0, 0)))[j]? := fun j => by rw [List.getD_eq_getElem?_getD, List.getElem?_eq_getElem (show i < lenT.length from hi29)]; rfl
    have c0 := (hc 0 (by decide)).trans (hg 0)
    have c1 := (hc 1 (by decide)).trans (hg 1)
    obtain ⟨x, hxx⟩ : ∃ x, x = lenT.getD i (0, 0) := ⟨_, rfl⟩
    rw [← hxx] at c0 c1 hx hs
    simp only [rc, List.getElem?_cons_zero, List.getElem?_cons_succ, Nat.add_zero, Nat.zero_add] at c0 c1
    clear hc hg hxx hi
    go_upto_region 5 with (fail)
    go_region
    go_wp2
    refine bodyPost_ret (results_tmp4 rfl _ _ _) rfl ?_
    rw [hs.out]
    exact ⟨by go_num, F3.out.drew⟩
theorem distT_le : ∀ i, i < 30 → 0 ≤ (distT.getD i (0, 0)).1 ∧ (distT.getD i (0, 0)).1 ≤ 24577 ∧ 0 ≤ (distT.getD i (0, 0)).2 ∧ (distT.getD i (0, 0)).2 ≤ 13 := by decide
set_option maxHeartbeats 2000000 in
theorem distSymbol_any (w : World) (n : Int) : Calls Tryz.prog 118 #[.int .i64 n] w fun e w' => e = .returned (.tuple #[.int .i64 (symN distT 0 1 32768 n).1, .int .i64 (symN distT 0 1 32768 n).2.1, .int .i64 (symN distT 0 1 32768 n).2.2.1, .int .i64 (symN distT 0 1 32768 n).2.2.2]) ∧ Fr w w' [] := by
  by_cases h : n < 1 ∨ 32768 < n
  · have hs : Hd (symN distT 0 1 32768 n = (0, 0, 0, 1)) := ⟨by unfold symN; rw [if_pos h]⟩
    go_enter Tryz.func118, Tryz.ntmps118
    by_cases h0 : n < 1
    · clear h
      go_wp2
      refine bodyPost_ret (results_tmp4 rfl _ _ _) rfl ?_
      rw [hs.out]
      exact ⟨rfl, Fr.refl _ _⟩
    · obtain h := h.resolve_left h0
      go_wp2
      refine bodyPost_ret (results_tmp4 rfl _ _ _) rfl ?_
      rw [hs.out]
      exact ⟨rfl, Fr.refl _ _⟩
  · have h1 : 1 ≤ n := by omega
    have h2 : n ≤ 32768 := by omega
    clear h
    go_enter Tryz.func118, Tryz.ntmps118
    go_upto_region 4 with (first
      | (go_at_call 165; refine (distRows_any w).mono ?_; rintro e w1 ⟨rfl, hf⟩; have F1 := Hd.mk hf; clear hf)
      | (refine wpList_store_row rfl 281 _ _ rfl w1.heap.size (rcs distT).toArray rfl rfl 281 _ (by exact blk_new w1 _) (by kernel_rfl) (by kernel_rfl) (by kernel_rfl) ?_))
    obtain ⟨w2, hw2⟩ : ∃ w2, w2 = (w1.alloc (.cells #[.int .i64 0, .int .i64 0, .int .i64 0, .int .i64 0, .int .i64 0, .int .i64 0, .int .i64 0, .int .i64 0, .int .i64 0, .int .i64 0, .int .i64 0, .int .i64 0, .int .i64 0, .int .i64 0, .int .i64 0, .int .i64 0, .int .i64 0, .int .i64 0, .int .i64 0, .int .i64 0, .int .i64 0, .int .i64 0, .int .i64 0, .int .i64 0, .int .i64 0, .int .i64 0, .int .i64 0, .int .i64 0, .int .i64 0, .int .i64 0, .int .i64 0, .int .i64 0, .int .i64 0, .int .i64 0, .int .i64 0, .int .i64 0, .int .i64 0, .int .i64 0, .int .i64 0, .int .i64 0, .int .i64 0, .int .i64 0, .int .i64 0, .int .i64 0, .int .i64 0, .int .i64 0, .int .i64 0, .int .i64 0, .int .i64 0, .int .i64 0, .int .i64 0, .int .i64 0, .int .i64 0, .int .i64 0, .int .i64 0, .int .i64 0, .int .i64 0, .int .i64 0, .int .i64 0, .int .i64 0] 281)).setRow w1.heap.size (rcs distT).toArray := ⟨_, rfl⟩
    have HB : Hd (w2.heap[w1.heap.size]? = some (.cells (rcs distT).toArray 281 (0, 0))) := ⟨by rw [hw2]; exact setRow_heap _ _ _ _ _ _ (blk_new w1 _)⟩
    have F2 : Hd (Fr w w2 []) := ⟨by rw [hw2]; exact Code.Fr.setRow (F1.out.alloc _) _ (.inr F1.out.size)⟩
    rw [← hw2]
    clear hw2
    generalize w1.heap.size = g at *
    have SL := Hd.mk (sl_of_blk HB.out)
    go_wp2_with (fail)
    refine (place_any w2 (some ⟨g, 0, none⟩) 30 30 distT (some g) n rfl SL.out (by decide)).mono ?_
    rintro e w3 ⟨rfl, h3⟩
    have F3 := Hd.mk (F2.out.trans h3 (by simp))
    have HB3 := Hd.mk (h3.blk HB.out (by simp))
    clear h3 HB SL F2
    obtain ⟨i, hi⟩ : ∃ i, i = plc distT n 30 := ⟨_, rfl⟩
    have hi30 : i < 30 := by rw [hi]; exact plc_lt distT n 30 (by decide)
    have hs : Hd (symN distT 0 1 32768 n = (0 + ((i : Nat) : Int), (distT.getD i (0, 0)).2, n - (distT.getD i (0, 0)).1, 0)) := ⟨by unfold symN; rw [if_neg (by omega), show distT.length = 30 from rfl, ← hi]⟩
    rw [← hi]
    have hx := distT_le i hi30
    obtain ⟨b0, o0, e1, _, hc⟩ := Sl.row (enc := rc) (sz := 2) (fun _ => rfl) (sl_of_blk HB3.out) (show i < distT.length from hi30) (by decide)
    cases e1
    have hg : ∀ j : Nat, (rc (distT[i]'hi30))[j]? = (rc (distT.getD i (0, 0)))[j]? := fun j => by rw [List.getD_eq_getElem?_getD, List.getElem?_eq_getElem (show i < distT.length from hi30)]; rfl
    have c0 := (hc 0 (by decide)).trans (hg 0)
    have c1 := (hc 1 (by decide)).trans (hg 1)
    obtain ⟨x, hxx⟩ : ∃ x, x = distT.getD i (0, 0) := ⟨_, rfl⟩
    rw [← hxx] at c0 c1 hx hs
    simp only [rc, List.getElem?_cons_zero, List.getElem?_cons_succ, Nat.add_zero, Nat.zero_add] at c0 c1
    clear hc hg hxx hi
    go_upto_region 5 with (fail)
    go_region
    go_wp2
    refine bodyPost_ret (results_tmp4 rfl _ _ _) rfl ?_
    rw [hs.out]
    exact ⟨by simp, F3.out.drew⟩
end Go.Proofs.YtkdgfioigkijgaaGreat.Blk
set_option linter.unusedVariables false
set_option linter.unusedSimpArgs false
set_option maxRecDepth 100000
namespace Go.Proofs.YtkdgfioigkijgaaGreat.Blk
open Go.RowKit Go.Proofs.YtkdgfioigkijgaaGreat.Lib Go.Proofs.YtkdgfioigkijgaaGreat.Ints
theorem sl_of_own2 {w : World} {e : TypeId} {g n c : Nat} {xs : List Value} (h : w.ownsRow 0 e 2 (.slice (some ⟨g, 0, none⟩) n c) n xs) : Sl w (some ⟨g, 0, none⟩) xs (some g) := by
  intro hx
  rcases h.2 with ⟨h', _⟩ | ⟨g', cap, cur, h', hb, hh, hnc, hcm, hcs, ht⟩
  · cases h'
  · injection h' with h1 h2 h3
    injection h1 with h1
    injection h1 with h1
    subst h1
    refine ⟨g, 0, rfl, rfl, fun j hj => ?_⟩
    rw [Nat.zero_add, blk_cell hh, ← ht, List.getElem?_take]
    have hl := h.1
    rw [if_pos (by omega)]
    simp
set_option maxHeartbeats 2000000 in
theorem rlenSymbol_any (w : World) (n : Int) : Calls Tryz.prog 88 #[.int .i64 n] w fun e w' => e = .returned (.tuple #[.int .i64 (symN lenT 257 3 258 n).1, .int .i64 (symN lenT 257 3 258 n).2.1, .int .i64 (symN lenT 257 3 258 n).2.2.1, .int .i64 (symN lenT 257 3 258 n).2.2.2]) ∧ Fr w w' [] := by
  by_cases h : n < 3 ∨ 258 < n
  · have hs : Hd (symN lenT 257 3 258 n = (0, 0, 0, 1)) := ⟨by unfold symN; rw [if_pos h]⟩
    go_enter Tryz.func88, Tryz.ntmps88
    by_cases h0 : n < 3
    · clear h
      go_wp2
      refine bodyPost_ret (results_tmp4 rfl _ _ _) rfl ?_
      rw [hs.out]
      exact ⟨rfl, Fr.refl _ _⟩
    · obtain h := h.resolve_left h0
      go_wp2
      refine bodyPost_ret (results_tmp4 rfl _ _ _) rfl ?_
      rw [hs.out]
      exact ⟨rfl, Fr.refl _ _⟩
  · have h1 : 3 ≤ n := by omega
    have h2 : n ≤ 258 := by omega
    clear h
    go_enter Tryz.func88, Tryz.ntmps88
    go_wp2_with (fail)
    refine (rLens_any w).mono ?_
    intro e w2 hp
    unfold RowsPost at hp
    obtain ⟨A, c, rfl, ho, hf⟩ := hp
    obtain ⟨g, c', e1, _⟩ := own_some ho (by decide)
    injection e1 with e1 _ e2
    subst e1 e2
    have F2 := Hd.mk hf
    have SL : Hd (Sl w2 (some ⟨g, 0, none⟩) (rcs lenT) (some g)) := ⟨sl_of_own2 ho⟩
    clear ho hf
    go_wp2_with (fail)
    refine (find_any w2 (some ⟨g, 0, none⟩) 29 c lenT (some g) n rfl SL.out (by decide)).mono ?_
    rintro e w3 ⟨rfl, h3⟩
    have F3 := Hd.mk (F2.out.trans h3 (by simp))
    have SL3 := Hd.mk (SL.out.frame h3 (by simp))
    clear h3 SL F2
    obtain ⟨i, hi⟩ : ∃ i, i = plc lenT n 29 := ⟨_, rfl⟩
    have hit : i < 29 := by rw [hi]; exact plc_lt lenT n 29 (by decide)
    have hs : Hd (symN lenT 257 3 258 n = (257 + ((i : Nat) : Int), (lenT.getD i (0, 0)).2, n - (lenT.getD i (0, 0)).1, 0)) := ⟨by unfold symN; rw [if_neg (by omega), show lenT.length = 29 from rfl, ← hi]⟩
    rw [← hi]
    have hx := lenT_le i hit
    obtain ⟨b0, o0, e1, _, hc⟩ := Sl.row (enc := rc) (sz := 2) (fun _ => rfl) SL3.out (show i < lenT.length from hit) (by decide)
    cases e1
    have hg : ∀ j : Nat, (rc (lenT[i]'hit))[j]? = (rc (lenT.getD i (0, 0)))[j]? := fun j => by rw [List.getD_eq_getElem?_getD, List.getElem?_eq_getElem (show i < lenT.length from hit)]; rfl
    have c0 := (hc 0 (by decide)).trans (hg 0)
    have c1 := (hc 1 (by decide)).trans (hg 1)
    obtain ⟨x, hxx⟩ : ∃ x, x = lenT.getD i (0, 0) := ⟨_, rfl⟩
    rw [← hxx] at c0 c1 hx hs
    simp only [rc, List.getElem?_cons_zero, List.getElem?_cons_succ, Nat.add_zero, Nat.zero_add] at c0 c1
    clear hc hg hxx hi
    go_upto_region 5 with (fail)
    go_region
    go_wp2
    refine bodyPost_ret (results_tmp4 rfl _ _ _) rfl ?_
    rw [hs.out]
    exact ⟨by go_num, F3.out.drew⟩
set_option maxHeartbeats 2000000 in
theorem rdistSymbol_any (w : World) (n : Int) : Calls Tryz.prog 89 #[.int .i64 n] w fun e w' => e = .returned (.tuple #[.int .i64 (symN distT 0 1 32768 n).1, .int .i64 (symN distT 0 1 32768 n).2.1, .int .i64 (symN distT 0 1 32768 n).2.2.1, .int .i64 (symN distT 0 1 32768 n).2.2.2]) ∧ Fr w w' [] := by
  by_cases h : n < 1 ∨ 32768 < n
  · have hs : Hd (symN distT 0 1 32768 n = (0, 0, 0, 1)) := ⟨by unfold symN; rw [if_pos h]⟩
    go_enter Tryz.func89, Tryz.ntmps89
    by_cases h0 : n < 1
    · clear h
      go_wp2
      refine bodyPost_ret (results_tmp4 rfl _ _ _) rfl ?_
      rw [hs.out]
      exact ⟨rfl, Fr.refl _ _⟩
    · obtain h := h.resolve_left h0
      go_wp2
      refine bodyPost_ret (results_tmp4 rfl _ _ _) rfl ?_
      rw [hs.out]
      exact ⟨rfl, Fr.refl _ _⟩
  · have h1 : 1 ≤ n := by omega
    have h2 : n ≤ 32768 := by omega
    clear h
    go_enter Tryz.func89, Tryz.ntmps89
    go_wp2_with (fail)
    refine (rDists_any w).mono ?_
    intro e w2 hp
    unfold RowsPost at hp
    obtain ⟨A, c, rfl, ho, hf⟩ := hp
    obtain ⟨g, c', e1, _⟩ := own_some ho (by decide)
    injection e1 with e1 _ e2
    subst e1 e2
    have F2 := Hd.mk hf
    have SL : Hd (Sl w2 (some ⟨g, 0, none⟩) (rcs distT) (some g)) := ⟨sl_of_own2 ho⟩
    clear ho hf
    go_wp2_with (fail)
    refine (find_any w2 (some ⟨g, 0, none⟩) 30 c distT (some g) n rfl SL.out (by decide)).mono ?_
    rintro e w3 ⟨rfl, h3⟩
    have F3 := Hd.mk (F2.out.trans h3 (by simp))
    have SL3 := Hd.mk (SL.out.frame h3 (by simp))
    clear h3 SL F2
    obtain ⟨i, hi⟩ : ∃ i, i = plc distT n 30 := ⟨_, rfl⟩
    have hit : i < 30 := by rw [hi]; exact plc_lt distT n 30 (by decide)
    have hs : Hd (symN distT 0 1 32768 n = (0 + ((i : Nat) : Int), (distT.getD i (0, 0)).2, n - (distT.getD i (0, 0)).1, 0)) := ⟨by unfold symN; rw [if_neg (by omega), show distT.length = 30 from rfl, ← hi]⟩
    rw [← hi]
    have hx := distT_le i hit
    obtain ⟨b0, o0, e1, _, hc⟩ := Sl.row (enc := rc) (sz := 2) (fun _ => rfl) SL3.out (show i < distT.length from hit) (by decide)
    cases e1
    have hg : ∀ j : Nat, (rc (distT[i]'hit))[j]? = (rc (distT.getD i (0, 0)))[j]? := fun j => by rw [List.getD_eq_getElem?_getD, List.getElem?_eq_getElem (show i < distT.length from hit)]; rfl
    have c0 := (hc 0 (by decide)).trans (hg 0)
    have c1 := (hc 1 (by decide)).trans (hg 1)
    obtain ⟨x, hxx⟩ : ∃ x, x = distT.getD i (0, 0) := ⟨_, rfl⟩
    rw [← hxx] at c0 c1 hx hs
    simp only [rc, List.getElem?_cons_zero, List.getElem?_cons_succ, Nat.add_zero, Nat.zero_add] at c0 c1
    clear hc hg hxx hi
    go_upto_region 5 with (fail)
    go_region
    go_wp2
    refine bodyPost_ret (results_tmp4 rfl _ _ _) rfl ?_
    rw [hs.out]
    exact ⟨by simp, F3.out.drew⟩
end Go.Proofs.YtkdgfioigkijgaaGreat.Blk
set_option linter.unusedVariables false
set_option linter.unusedSimpArgs false
set_option maxRecDepth 100000
namespace Go.Proofs.YtkdgfioigkijgaaGreat.Code
open Go.RowKit Go.IntWalk Go.Proofs.YtkdgfioigkijgaaGreat.Lib Go.Proofs.YtkdgfioigkijgaaGreat.Ints
def spErr (lens : List Int) : Int := if bad lens = true then 50 else 0
def spVal (lens : List Int) : Nat := if bad lens = true then 0 else space lens
set_option maxHeartbeats 8000000 in
theorem firsts_any (w : World) (f : Nat → Nat) (hf : ∀ l, f l ≤ 288) :
    Calls Tryz.prog 200 #[.agg (vec f)] w fun e w' => e = .returned (.agg (vec (firstF f))) ∧ Fr w w' [] := by
  have HF := Hd.mk hf
  clear hf
  go_enter Tryz.func200, Tryz.ntmps200
  go_upto_region 2 with (fail)
  rw [vec_zero]
  have N0 := blk_alloc (blk_alloc (blk_new w (.cells (vec f) 286)) (.cells (vec fun _ => 0) 286)) (.cells (vec fun _ => 0) 286)
  have R0 := blk_alloc (blk_new (w.alloc (.cells (vec f) 286)) (.cells (vec fun _ => 0) 286)) (.cells (vec fun _ => 0) 286)
  have X0 := blk_new ((w.alloc (.cells (vec f) 286)).alloc (.cells (vec fun _ => 0) 286)) (.cells (vec fun _ => 0) 286)
  have F0 := (((Fr.refl w []).alloc (.cells (vec f) 286)).alloc (.cells (vec fun _ => 0) 286)).alloc (.cells (vec fun _ => 0) 286)
  simp only [World.size_alloc] at R0 X0
  obtain ⟨gb, hgb⟩ : ∃ gb, gb = w.heap.size := ⟨_, rfl⟩
  obtain ⟨gr, hgr⟩ : ∃ gr, gr = w.heap.size + 1 := ⟨_, rfl⟩
  obtain ⟨gx, hgx⟩ : ∃ gx, gx = w.heap.size + 1 + 1 := ⟨_, rfl⟩
  rw [← hgx] at X0 
  rw [← hgr] at R0 
  rw [← hgb] at N0 
  have hgg : w.heap.size ≤ gb ∧ w.heap.size ≤ gr ∧ w.heap.size ≤ gx ∧ gb ≠ gx ∧ gr ≠ gx := by omega
  rw [← hgx, ← hgr, ← hgb]
  generalize (((w.alloc (.cells (vec f) 286)).alloc (.cells (vec fun _ => 0) 286)).alloc (.cells (vec fun _ => 0) 286)) = w1 at *
  have HN := Hd.mk N0
  have HR := Hd.mk R0
  have HX := Hd.mk X0
  have F1 := Hd.mk F0
  clear N0 R0 X0 F0 hgb hgr hgx
  go_wp2
  go_loopg [4, 5] 15 (fun kq cv lv wr => ∃ (m s : Nat), cv = .int .i64 (s : Nat) ∧ lv = .int .i64 ((m + 1 : Nat) : Int) ∧ m + kq = 15 ∧ Hd (s = firstF f m) ∧ Hd (wr.heap[gb]? = some (.cells (vec f) 286 (0, 0))) ∧ Hd (wr.heap[gr]? = some (.cells (vec fun _ => 0) 286 (0, 0))) ∧ Hd (wr.heap[gx]? = some (.cells (vec fun i => if i ≤ m then firstF f i else 0) 286 (0, 0))) ∧ Hd (Fr w wr []))
  case atStart => exact ⟨0, 0, rfl, rfl, rfl, ⟨rfl⟩, HN, HR, ⟨by rw [HX.out]; exact congrArg some (congrArg (fun v => Obj.cells v _ _) (vec_congr fun i _ => by cases i <;> simp [firstF]))⟩, F1⟩
  case round =>
    obtain ⟨m, s, rfl, rfl, hm, HS, HN, HR, HX, HFr⟩ := hrel
    by_cases h : m < 15
    · have hm0 : (m : Int) < 16 := by omega
      have hm1 : (m : Int) + 1 < 16 := by omega
      have kn := (blk_cell HN.out m).trans (vec_get f (by omega))
      obtain ⟨kv, kx⟩ : ∃ v, wr.cell? ⟨gx, m + 1, none⟩ = some v := ⟨_, (blk_cell HX.out (m + 1)).trans (vec_get _ (by omega))⟩
      have fx := blk_frozen HX.out (m + 1)
      obtain ⟨fm, hfm⟩ : ∃ fm, fm = f m := ⟨_, rfl⟩
      have hfb : fm ≤ 288 := by rw [hfm]; exact HF.out m
      rw [← hfm] at kn
      have hsb : s ≤ 18874368 := by
        have h1 := firstF_le HF.out m
        have h2 : 2 ^ (m + 1) * 288 ≤ 2 ^ 16 * 288 := Nat.mul_le_mul_right 288 (Nat.pow_le_pow_right (by omega) (by omega))
        rw [HS.out]
        omega
      have HFM := Hd.mk hfm
      clear hfm
      go_wp2
      have e1 : (((s : Int) + (fm : Nat)) * 2) = (((s + fm) * 2 : Nat) : Int) := by push_cast; rfl
      rw [e1]
      have HX2 := blk_set HX.out (m + 1) (.int .i64 (((s + fm) * 2 : Nat) : Int))
      rw [vec_set] at HX2
      have e3 : vec (upd (fun i => if i ≤ m then firstF f i else 0) (m + 1) ((s + fm) * 2)) = vec (fun i => if i ≤ m + 1 then firstF f i else 0) := vec_congr fun i _ => by
        unfold upd
        show (if i = m + 1 then (s + fm) * 2 else if i ≤ m then firstF f i else 0) = if i ≤ m + 1 then firstF f i else 0
        by_cases h1 : i = m + 1
        · subst h1
          rw [if_pos rfl, if_pos (Nat.le_refl _), HS.out, HFM.out]
          rfl
        · rw [if_neg h1]
          by_cases h2 : i ≤ m
          · rw [if_pos h2, if_pos (by omega)]
          · rw [if_neg h2, if_neg (by omega)]
      rw [e3] at HX2
      have HX3 := Hd.mk HX2
      clear HX2 e3
      go_roundg (gk - 1)
      case measure => omega
      case rel => exact ⟨m + 1, (s + fm) * 2, rfl, by go_num, by omega, ⟨by rw [HS.out, HFM.out]; rfl⟩, ⟨blk_far HN.out hgg.2.2.2.1 _⟩, ⟨blk_far HR.out hgg.2.2.2.2 _⟩, HX3, ⟨HFr.out.setCell _ (.inr hgg.2.2.1)⟩⟩
    · obtain rfl : m = 15 := by omega
      go_wp2_with (first | (refine wpl_load_vec rfl _ rfl gx rfl _ HX.out ?_) | (refine wpl_store_vec rfl _ _ rfl gr _ (fun _ => 0) rfl rfl HR.out ?_))
      refine bodyPost_ret (results_cell_row rfl _ _ gr 286 _ _ _ rfl (setRow_heap _ _ _ _ _ _ HR.out) Tryz.underlying286 rfl (infoArr.trans (by rw [vec_size]))) rfl ?_
      refine ⟨?_, Fr.setRow HFr.out _ (.inr hgg.2.1)⟩
      exact congrArg (fun v => Ending.returned (Value.agg v)) (vec_congr fun i hi => by rw [if_pos (by omega)])
theorem own_any {w : World} {base g : Nat} {e : TypeId} {size n cap : Nat} {xs : List Value} (h : w.ownsRow base e size (.slice (some ⟨g, 0, none⟩) n cap) n xs) {j : Nat} (hj : j < n * size) : ∃ v, w.cell? ⟨g, j, none⟩ = some v ∧ w.frozen? ⟨g, j, none⟩ = false :=
  ⟨_, (h.cellAt j hj).trans (List.getElem?_eq_getElem (by rw [h.1]; exact hj)), h.frozenAt j⟩
theorem set_mid : ∀ (a : List Value) (x y : Value) (b : List Value), (a ++ x :: b).set a.length y = a ++ y :: b
  | [], x, y, b => rfl
  | u :: a, x, y, b => by simp [set_mid a x y b]
def nv (L : List Nat) : List Value := i64s (L.map fun (c : Nat) => (c : Int))
theorem nv_len (L : List Nat) : (nv L).length = L.length := by simp [nv, i64s]
theorem nv_app (a b : List Nat) : nv (a ++ b) = nv a ++ nv b := by simp [nv, i64s]
set_option maxHeartbeats 8000000 in
theorem codes_any (w : World) (A : Option Addr) (n c : Nat) (lens : List Int) (q : Option Nat) (hS : SlArg w A n c (i64s lens) q) (r : Int) (L : List Nat) (hr : r = check lens) (hL : L = codes lens) :
    Calls Tryz.prog 189 #[.slice A n c] w fun e w' => ∃ A' d', e = .returned (.tuple #[.slice A' L.length d', .int .i64 r]) ∧
      w'.ownsRow 0 3 1 (.slice A' L.length d') L.length (nv L) ∧ (∀ y, (Value.slice A' L.length d').ownBlock = some y → w.heap.size ≤ y) ∧ Fr w w' [] := by
  obtain ⟨j0, hj0, hj1, hj2, hj3⟩ := info_parts infoI64
  have HS := Hd.mk hS
  have HR := Hd.mk hr
  have HL := Hd.mk hL
  have hl : lens.length = n := by have := hS.len; simpa [i64s] using this
  clear hS hr hL
  go_enter Tryz.func189, Tryz.ntmps189
  go_wp2_with (fail)
  refine (check_any w A n c lens q HS.out r HR.out).mono ?_
  rintro e w1 ⟨rfl, h1⟩
  have F1 := Hd.mk h1
  clear h1
  by_cases hr0 : r = 0
  · subst hr0
    have hb : bad lens = false := by
      cases hb : bad lens with
      | false => rfl
      | true => have := HR.out; unfold check at this; rw [if_pos hb] at this; cases this
    have HB := Hd.mk hb
    obtain ⟨hl288, hall⟩ := bad_false hb
    have HALL := Hd.mk hall
    have HCZ : Hd (∀ l, cz lens l ≤ 288) := ⟨fun l => Nat.le_trans (cz_le lens l) hl288⟩
    have HL2 : Hd (L = codesF lens (firstF (cz lens))) := ⟨by rw [HL.out]; unfold codes; rw [if_pos HR.out.symm]⟩
    have hLn : L.length = n := by rw [HL2.out, codesF_len, hl]
    clear hb hall
    go_wp2_with (fail)
    refine (counts_any w1 A n c lens q (HS.out.frame F1.out (by simp)) false HB.out.symm).mono ?_
    rintro e w2 ⟨F, rfl, hF, h2⟩
    rw [hF rfl]
    have F2 := Hd.mk (F1.out.trans h2 (by simp))
    clear hF h2
    go_upto_region 5 with (rw [vec_zero]; refine wpl_store_vec rfl _ _ rfl w2.heap.size _ (fun _ => 0) rfl rfl (by exact blk_new w2 _) ?_)
    have N0 := laid_vec w2 (cz lens)
    have G0 := laid_fr w2 (cz lens)
    generalize ((w2.alloc (.cells (vec fun _ => 0) 286)).setRow w2.heap.size (vec (cz lens))) = w3 at *
    generalize w2.heap.size = gn at *
    have HN := Hd.mk N0
    have F3 := Hd.mk (F2.out.trans G0 (by simp))
    clear N0 G0 F2
    go_wp2_with (first | (refine wpl_load_vec rfl _ rfl gn rfl _ HN.out ?_))
    refine (firsts_any w3 (cz lens) HCZ.out).mono ?_
    rintro e w4 ⟨rfl, h4⟩
    have F4 := Hd.mk (F3.out.trans h4 (by simp))
    clear h4
    go_upto_region 6 with (rw [vec_zero]; refine wpl_store_vec rfl _ _ rfl w4.heap.size _ (fun _ => 0) rfl rfl (by exact blk_new w4 _) ?_)
    have N0 := laid_vec w4 (firstF (cz lens))
    have G0 := laid_fr w4 (firstF (cz lens))
    have hgx : w.heap.size ≤ w4.heap.size := F4.out.size
    generalize ((w4.alloc (.cells (vec fun _ => 0) 286)).setRow w4.heap.size (vec (firstF (cz lens)))) = w5 at *
    generalize w4.heap.size = gx at *
    have HX := Hd.mk N0
    have F5 := Hd.mk (F4.out.trans G0 (by simp))
    clear N0 G0 F4 HN
    go_wp2_with (refine wpList_make_full _ rfl _ _ 79 rfl 0 3 j0 (.int .i64 0) 1 Tryz.underlying79 hj0 hj1 hj2 .i64 .i64 _ _ n rfl rfl rfl rfl (by rw [hj3]; omega) (by unfold maxLen; omega) (Nat.zero_le _) ?_; intro w6 hown1 hgrow1; have O6 := Hd.mk hown1; have F6 := Hd.mk (F5.out.grown hgrow1 (by simp)); have X6 := Hd.mk (blk_grown hgrow1 HX.out (by simp)); clear hown1 hgrow1)
    have hgo : w.heap.size ≤ w5.heap.size := F5.out.size
    have F6' := F6
    generalize w5.heap.size = go at *
    have O6' : Hd (w6.ownsRow 0 3 1 (.slice (some ⟨go, 0, none⟩) n n) n (nv [] ++ i64s (List.replicate (n - 0) 0))) := ⟨by
      have e := toList_madeCells_one (Value.int .i64 0) (n * 1)
      have e2 : (Value.int .i64 0).cells = #[Value.int .i64 0] := rfl
      have e3 : nv [] ++ i64s (List.replicate (n - 0) 0) = (madeCells (Value.int .i64 0).cells (n * 1)).toList := by
        rw [e2, e]
        simp [nv, i64s]
      rw [e3]
      exact O6.out⟩
    clear O6
    go_loopg [28] n (fun kq iv wr => ∃ (i : Nat) (nx : Nat → Nat) (dn : List Nat), iv = .int .i64 (i : Nat) ∧ i + kq = n ∧ dn.length = i ∧ Hd (L = dn ++ codesF (lens.drop i) nx) ∧ Hd (∀ l, l < 16 → nx l ≤ 18874368 + i) ∧ Hd (wr.heap[gx]? = some (.cells (vec nx) 286 (0, 0))) ∧ Hd (wr.ownsRow 0 3 1 (.slice (some ⟨go, 0, none⟩) n n) n (nv dn ++ i64s (List.replicate (n - i) 0))) ∧ Hd (Fr w wr []))
    case atStart => exact ⟨0, firstF (cz lens), [], rfl, by omega, rfl, ⟨by rw [HL2.out]; rfl⟩, ⟨fun l hl => by
      have h1 := firstF_le HCZ.out l
      have h2 : 2 ^ (l + 1) * 288 ≤ 2 ^ 16 * 288 := Nat.mul_le_mul_right 288 (Nat.pow_le_pow_right (by omega) (by omega))
      omega⟩, X6, O6', F6⟩
    case round =>
      obtain ⟨i, nx, dn, rfl, hik, hdn, HLL, HNX, HX, HO, HFr⟩ := hrel
      have hne : go ≠ gx := by
        obtain ⟨cs, hcs⟩ := own_type HO.out (k := go) rfl
        exact blk_ne hcs HX.out (by decide)
      by_cases hi : i < n
      · obtain ⟨bd, off, rfl, _, hcc⟩ := (HS.out.sl.frame HFr.out (by simp)) (by rw [i64s_length]; omega)
        have kd := (hcc i (by rw [i64s_length]; omega)).trans (i64s_get lens i)
        obtain ⟨x, hx⟩ : ∃ x, lens[i]? = some x := ⟨_, List.getElem?_eq_getElem (by omega)⟩
        rw [hx] at kd
        simp only [Option.map_some] at kd
        obtain ⟨hil, hxe⟩ := List.getElem?_eq_some_iff.mp hx
        have hxb := HALL.out x (by rw [← hxe]; exact List.getElem_mem hil)
        have HDR : Hd (codesF (lens.drop i) nx = (if 0 < x then nx x.toNat else 0) :: codesF (lens.drop (i + 1)) (if 0 < x then upd nx x.toNat (nx x.toNat + 1) else nx)) := ⟨by rw [List.drop_eq_getElem_cons hil, hxe]; rfl⟩
        have hrep : Hd (List.replicate (n - i) (0 : Int) = 0 :: List.replicate (n - (i + 1)) 0) := ⟨by rw [show n - i = n - (i + 1) + 1 from by omega]; rfl⟩
        obtain ⟨v, rfl⟩ := Int.eq_ofNat_of_zero_le (show 0 ≤ x by omega)
        clear hcc hx hxe hil
        by_cases hv : (v : Int) > 0
        · have hv16 : (v : Int) < 16 := by omega
          have kn := (blk_cell HX.out v).trans (vec_get nx (by omega))
          have fn := blk_frozen HX.out v
          obtain ⟨nvv, hnv⟩ : ∃ z, z = nx v := ⟨_, rfl⟩
          have hnb : nvv ≤ 18874368 + i := by rw [hnv]; exact HNX.out v (by omega)
          rw [← hnv] at kn
          have HNV := Hd.mk hnv
          obtain ⟨u0, y0, f0⟩ := own_any HO.out (j := i) (by omega)
          have HO2 := Hd.mk ((HO.out.stored i (.int .i64 (nvv : Nat))).1)
          have kn2 : (wr.setCell ⟨go, i, none⟩ (.int .i64 (nvv : Nat))).cell? ⟨gx, v, none⟩ = some (.int .i64 (nvv : Nat)) := (blk_cell (blk_far HX.out (p := ⟨go, i, none⟩) (Ne.symm hne) _) v).trans (by rw [vec_get nx (by omega), hnv])
          have fn2 : (wr.setCell ⟨go, i, none⟩ (.int .i64 (nvv : Nat))).frozen? ⟨gx, v, none⟩ = false := blk_frozen (blk_far HX.out (p := ⟨go, i, none⟩) (Ne.symm hne) _) v
          have HX2 := Hd.mk (blk_set (blk_far HX.out (p := ⟨go, i, none⟩) (Ne.symm hne) (.int .i64 (nvv : Nat))) v (.int .i64 ((nvv + 1 : Nat) : Int)))
          have HO3 := Hd.mk (own_setFar HO2.out (a := ⟨gx, v, none⟩) (.int .i64 ((nvv + 1 : Nat) : Int)) (by simp [Value.ownBlock]; exact hne))
          clear hnv
          go_wp2
          go_roundg (gk - 1)
          case measure => omega
          case rel =>
            refine ⟨i + 1, upd nx v (nvv + 1), dn ++ [nvv], by go_num, by omega, by simp [hdn], ⟨?_⟩, ⟨?_⟩, ⟨?_⟩, ⟨?_⟩, ⟨(HFr.out.setCell _ (.inr hgo)).setCell _ (.inr hgx)⟩⟩
            · rw [HLL.out, HDR.out, if_pos hv, if_pos hv, Int.toNat_natCast, ← HNV.out, List.append_assoc]; rfl
            · intro l hl16
              have := HNX.out l hl16
              unfold upd
              split <;> omega
            · have := HX2.out
              rw [vec_set] at this
              exact this
            · have := HO3.out
              rw [hrep.out] at this
              have e : (nv dn ++ i64s (0 :: List.replicate (n - (i + 1)) 0)).set i (.int .i64 (nvv : Nat)) = nv (dn ++ [nvv]) ++ i64s (List.replicate (n - (i + 1)) 0) := by
                have h0 := set_mid (nv dn) (.int .i64 0) (.int .i64 (nvv : Nat)) (i64s (List.replicate (n - (i + 1)) 0))
                rw [nv_len, hdn] at h0
                rw [nv_app, List.append_assoc]
                exact h0
              rw [e] at this
              exact this
        · obtain rfl : v = 0 := by omega
          have HO2 : Hd (wr.ownsRow 0 3 1 (.slice (some ⟨go, 0, none⟩) n n) n (nv (dn ++ [0]) ++ i64s (List.replicate (n - (i + 1)) 0))) := ⟨by
            have := HO.out
            rw [hrep.out] at this
            rw [nv_app, List.append_assoc]
            exact this⟩
          have HL3 : Hd (L = (dn ++ [0]) ++ codesF (lens.drop (i + 1)) nx) := ⟨by rw [HLL.out, HDR.out, if_neg (by omega), if_neg (by omega), List.append_assoc]; rfl⟩
          clear HO HLL HDR
          go_wp2
          go_roundg (gk - 1)
          case measure => omega
          case rel => exact ⟨i + 1, nx, dn ++ [0], by go_num, by omega, by simp [hdn], HL3, ⟨fun l hl16 => by have := HNX.out l hl16; omega⟩, HX, HO2, HFr⟩
      · obtain rfl : i = n := by omega
        have e1 : Hd (L = dn) := ⟨by rw [HLL.out, List.drop_of_length_le (by omega)]; simp [codesF]⟩
        go_wp2
        go_ret2
        have := HO.out
        rw [Nat.sub_self, ← e1.out, show i64s (List.replicate 0 (0 : Int)) = [] from rfl, List.append_nil] at this
        rw [hLn]
        exact ⟨_, _, rfl, this, (by intro y hy; cases hy; exact hgo), HFr.out⟩
  · have hne : (r != 0) = true := by simpa using hr0
    obtain rfl : L = [] := by rw [HL.out]; unfold codes; rw [if_neg (by rw [← HR.out]; exact hr0)]
    go_wp2
    go_ret2
    exact ⟨none, 0, rfl, (show w1.ownsRow 0 3 1 (.slice none 0 0) 0 [] from own_nil _ _ _ _), (by intro j hj; cases hj), F1.out⟩
end Go.Proofs.YtkdgfioigkijgaaGreat.Code
set_option maxRecDepth 100000
namespace Go.Proofs.YtkdgfioigkijgaaGreat.Num
open Go.RowKit
theorem wrap64_id {n : Int} (h0 : -9223372036854775808 ≤ n) (h1 : n ≤ 9223372036854775807) : wrap64 n = n := by unfold wrap64; omega
theorem n64id {n : Int} (h0 : 0 ≤ n) (h1 : n < 18446744073709551616) : IntKind.u64.wrap n = n := IntWalk.u64_in n ⟨h0, by omega⟩
theorem n64wraps (n : Int) (h₀ : 0 ≤ n) (h₁ : n < 2 ^ 64) : IntKind.u64.wrap n = n := n64id h₀ (by simpa using h₁)
theorem n64and {a b : Nat} (ha : a < 2 ^ 64) (hb : b < 2 ^ 64) : Go.bits .and .u64 a b = ((a &&& b : Nat) : Int) := (bits_nat .u64 64 (by decide) n64wraps a b ha hb).1
theorem n64or {a b : Nat} (ha : a < 2 ^ 64) (hb : b < 2 ^ 64) : Go.bits .or .u64 a b = ((a ||| b : Nat) : Int) := (bits_nat .u64 64 (by decide) n64wraps a b ha hb).2
theorem n64and1 {a : Nat} (ha : a < 2 ^ 64) : Go.bits .and .u64 a 1 = ((a % 2 : Nat) : Int) := by
  have := n64and (b := 1) ha (by decide)
  rw [Nat.and_one_is_mod] at this
  exact_mod_cast this
theorem n64mask {a n : Nat} (ha : a < 2 ^ 64) (hn : n ≤ 64) : Go.bits .and .u64 a ((2 ^ n - 1 : Nat) : Int) = ((a % 2 ^ n : Nat) : Int) := by
  have h : 2 ^ n - 1 < 2 ^ 64 := Nat.lt_of_lt_of_le (Nat.sub_lt (Nat.two_pow_pos n) (by decide)) (Nat.pow_le_pow_right (by decide) hn)
  rw [n64and ha h, Nat.and_two_pow_sub_one_eq_mod]
theorem n8or {a b : Nat} (ha : a < 2 ^ 8) (hb : b < 2 ^ 8) : Go.bits .or .u8 a b = ((a ||| b : Nat) : Int) := (bits_nat .u8 8 (by decide) wraps_u8 a b ha hb).2
theorem or_add {a b i : Nat} (ha : a < 2 ^ i) : a ||| b * 2 ^ i = a + b * 2 ^ i := by
  rw [Nat.mul_comm b, Nat.or_comm, ← Nat.two_pow_add_eq_or_of_lt ha, Nat.add_comm]
theorem pow_cast (n : Nat) : ((2 ^ n : Nat) : Int) = 2 ^ n := by simp
theorem div_cast (a n : Nat) : (a : Int) / 2 ^ n = ((a / 2 ^ n : Nat) : Int) := by simp
theorem pow_lt_64 {n : Nat} (h : n < 64) : 2 ^ n < 18446744073709551616 := by
  have := Nat.pow_lt_pow_right (a := 2) (by decide) h
  simpa using this
def rv (x : Nat) : Nat → Nat
  | 0 => 0
  | n + 1 => 2 * rv x n + x / 2 ^ n % 2
theorem rv_lt (x n : Nat) : rv x n < 2 ^ n := by
  induction n with
  | zero => simp [rv]
  | succ n ih => simp only [rv, Nat.pow_succ]; omega
theorem rv_bit (x n : Nat) : ∀ i, (rv x n).testBit i = (decide (i < n) && x.testBit (n - 1 - i)) := by
  induction n with
  | zero => intro i; simp [rv]
  | succ n ih =>
    intro i
    cases i with
    | zero =>
      rw [Nat.testBit_zero, rv, show (2 * rv x n + x / 2 ^ n % 2) % 2 = x / 2 ^ n % 2 from by omega]
      simp [Nat.testBit_eq_decide_div_mod_eq]
    | succ i =>
      rw [Nat.testBit_succ, rv, show (2 * rv x n + x / 2 ^ n % 2) / 2 = rv x n from by omega, ih]
      by_cases h : i < n
      · simp [h, show n - 1 - i = n - (i + 1) from by omega]
      · simp [h]
def low (x n : Nat) : Nat → Nat
  | 0 => 0
  | i + 1 => low x n i + (x / 2 ^ (n - 1 - i) % 2) * 2 ^ i
end Go.Proofs.YtkdgfioigkijgaaGreat.Num
set_option maxRecDepth 100000
set_option linter.unusedVariables false
set_option linter.unusedSimpArgs false
namespace Go.Proofs.YtkdgfioigkijgaaGreat.Num
open Go.RowKit
def bytesOf (N n : Nat) : List Int := (List.range ((n + 7) / 8)).map fun j => ((N / 2 ^ (8 * j) % 256 : Nat) : Int)
theorem bytesOf_length (N n : Nat) : (bytesOf N n).length = (n + 7) / 8 := by simp [bytesOf]
theorem bytesOf_get {N n j : Nat} (h : j < (n + 7) / 8) : (bytesOf N n)[j]? = some ((N / 2 ^ (8 * j) % 256 : Nat) : Int) := by
  simp [bytesOf, h]
theorem bytesOf_range {N n : Nat} : ∀ x ∈ bytesOf N n, 0 ≤ x ∧ x ≤ 255 := by
  intro x hx
  simp only [bytesOf, List.mem_map, List.mem_range] at hx
  obtain ⟨j, _, rfl⟩ := hx
  omega
def pre (N m : Nat) : List Int := bytesOf N m ++ if m % 8 = 0 then [0] else []
theorem pre_length (N m : Nat) : (pre N m).length = m / 8 + 1 := by
  unfold pre
  split <;> simp [bytesOf_length] <;> omega
theorem top_lt {N m : Nat} (hN : N < 2 ^ m) : N / 2 ^ (8 * (m / 8)) < 2 ^ (m % 8) := by
  rw [Nat.div_lt_iff_lt_mul (Nat.two_pow_pos _), ← Nat.pow_add]
  rwa [show m % 8 + 8 * (m / 8) = m from by omega]
theorem top_lt8 {N m : Nat} (hN : N < 2 ^ m) : N / 2 ^ (8 * (m / 8)) < 256 := by
  have h := top_lt hN
  have : 2 ^ (m % 8) ≤ 2 ^ 8 := Nat.pow_le_pow_right (by decide) (by omega)
  omega
theorem pre_get {N m : Nat} (hN : N < 2 ^ m) : (pre N m)[m / 8]? = some ((N / 2 ^ (8 * (m / 8)) : Nat) : Int) := by
  unfold pre
  by_cases h : m % 8 = 0
  · rw [if_pos h, List.getElem?_append_right (by simp [bytesOf_length]; omega)]
    have := top_lt hN
    rw [h] at this
    simp at this
    rw [show m / 8 - (bytesOf N m).length = 0 from by simp [bytesOf_length]; omega]
    simp only [List.getElem?_cons_zero]
    have h0 : N / 2 ^ (8 * (m / 8)) = 0 := by rw [Nat.div_eq_zero_iff]; right; exact this
    rw [h0]; rfl
  · rw [if_neg h, List.append_nil, bytesOf_get (by omega), Nat.mod_eq_of_lt (top_lt8 hN)]
theorem pre_low {N m j : Nat} (h : j < m / 8) : (pre N m)[j]? = some ((N / 2 ^ (8 * j) % 256 : Nat) : Int) := by
  unfold pre
  rw [List.getElem?_append_left (by rw [bytesOf_length]; omega), bytesOf_get (by omega)]
theorem low_same {N m x j : Nat} (h : j < m / 8) : (N + x * 2 ^ m) / 2 ^ (8 * j) % 256 = N / 2 ^ (8 * j) % 256 := by
  have e : x * 2 ^ m = (x * 2 ^ (m - 8 * j - 8) * 256) * 2 ^ (8 * j) := by
    rw [show (256 : Nat) = 2 ^ 8 from rfl, Nat.mul_assoc, Nat.mul_assoc, ← Nat.pow_add, ← Nat.pow_add]
    congr 2; omega
  rw [e, Nat.add_mul_div_right _ _ (Nat.two_pow_pos _)]
  omega
theorem top_new {N m x : Nat} : (N + x * 2 ^ m) / 2 ^ (8 * (m / 8)) = N / 2 ^ (8 * (m / 8)) + x * 2 ^ (m % 8) := by
  have e : x * 2 ^ m = (x * 2 ^ (m % 8)) * 2 ^ (8 * (m / 8)) := by
    rw [Nat.mul_assoc, ← Nat.pow_add]
    congr 2; omega
  rw [e, Nat.add_mul_div_right _ _ (Nat.two_pow_pos _)]
theorem top_new_lt {N m x k : Nat} (hN : N < 2 ^ m) (hx : x < 2 ^ k) (hk : m % 8 + k ≤ 8) : N / 2 ^ (8 * (m / 8)) + x * 2 ^ (m % 8) < 256 := by
  have h := top_lt hN
  have h2 : (x + 1) * 2 ^ (m % 8) ≤ 2 ^ k * 2 ^ (m % 8) := Nat.mul_le_mul_right _ hx
  rw [← Nat.pow_add] at h2
  have h3 : 2 ^ (k + m % 8) ≤ 2 ^ 8 := Nat.pow_le_pow_right (by decide) (by omega)
  rw [Nat.add_mul] at h2
  omega
theorem pre_set {N m x k : Nat} (hN : N < 2 ^ m) (h1 : 1 ≤ k) (hk : m % 8 + k ≤ 8) (hx : x < 2 ^ k) :
    (pre N m).set (m / 8) ((N / 2 ^ (8 * (m / 8)) + x * 2 ^ (m % 8) : Nat) : Int) = bytesOf (N + x * 2 ^ m) (m + k) := by
  apply List.ext_getElem?
  intro j
  rw [List.getElem?_set]
  by_cases hj : m / 8 = j
  · subst hj
    rw [if_pos rfl, if_pos (by rw [pre_length]; omega), bytesOf_get (by omega), top_new, Nat.mod_eq_of_lt (top_new_lt hN hx hk)]
  · rw [if_neg hj]
    by_cases hlt : j < m / 8
    · rw [pre_low hlt, bytesOf_get (by omega), low_same hlt]
    · rw [List.getElem?_eq_none (by rw [pre_length]; omega), List.getElem?_eq_none (by rw [bytesOf_length]; omega)]
theorem byte_or {N m x y k : Nat} (hN : N < 2 ^ m) (hx : x = y % 2 ^ k) (hy : y < 2 ^ 64) (hk : m % 8 + k ≤ 8) :
    Go.bits .or .u8 ((N / 2 ^ (8 * (m / 8)) : Nat) : Int) (Go.bits .and .u64 (y : Int) (IntKind.u64.wrap (IntKind.u64.wrap (2 ^ k) - 1)) % 256 * 2 ^ (m % 8) % 256) = ((N / 2 ^ (8 * (m / 8)) + x * 2 ^ (m % 8) : Nat) : Int) := by
  have hp : (2 : Nat) ^ k ≤ 2 ^ 8 := Nat.pow_le_pow_right (by decide) (by omega)
  have hp0 := Nat.two_pow_pos k
  have hx' : x < 2 ^ k := by rw [hx]; exact Nat.mod_lt _ hp0
  have e1 : IntKind.u64.wrap (IntKind.u64.wrap (2 ^ k) - 1) = ((2 ^ k - 1 : Nat) : Int) := by
    rw [← pow_cast, n64id (n := ((2 ^ k : Nat) : Int)) (by omega) (by omega), show ((2 ^ k : Nat) : Int) - 1 = ((2 ^ k - 1 : Nat) : Int) from by omega]
    exact n64id (by omega) (by omega)
  rw [e1, n64mask hy (by omega), ← hx]
  have ht := top_new_lt hN hx' hk
  have ht1 : x * 2 ^ (m % 8) < 256 := Nat.lt_of_le_of_lt (Nat.le_add_left _ _) ht
  have ht2 : N / 2 ^ (8 * (m / 8)) < 256 := top_lt8 hN
  have e2 : ((x : Nat) : Int) % 256 * 2 ^ (m % 8) % 256 = ((x * 2 ^ (m % 8) : Nat) : Int) := by
    rw [← pow_cast]
    have : ((x : Nat) : Int) % 256 = (x : Int) := by omega
    rw [this, ← Int.natCast_mul]; omega
  rw [e2, n8or (a := N / 2 ^ (8 * (m / 8))) (b := x * 2 ^ (m % 8)) (by omega) (by omega), or_add (top_lt hN)]
theorem grow_lt {N m x k : Nat} (hN : N < 2 ^ m) (hx : x < 2 ^ k) : N + x * 2 ^ m < 2 ^ (m + k) := by
  have h2 : (x + 1) * 2 ^ m ≤ 2 ^ k * 2 ^ m := Nat.mul_le_mul_right _ hx
  rw [← Nat.pow_add, Nat.add_mul, Nat.add_comm k m] at h2
  omega
theorem mod_more (v i k : Nat) : v % 2 ^ (i + k) = v % 2 ^ i + v / 2 ^ i % 2 ^ k * 2 ^ i := by
  rw [Nat.pow_add, Nat.mod_mul, Nat.mul_comm (2 ^ i)]
def valB : List Int → Nat
  | [] => 0
  | x :: xs => x.toNat + 256 * valB xs
theorem valB_lt {xs : List Int} (h : ∀ x ∈ xs, 0 ≤ x ∧ x ≤ 255) : valB xs < 2 ^ (8 * xs.length) := by
  induction xs with
  | nil => simp [valB]
  | cons x xs ih =>
    have hx := h x (by simp)
    have := ih fun y hy => h y (by simp [hy])
    rw [valB, List.length_cons, Nat.mul_add, Nat.pow_add, show 2 ^ (8 * 1) = 256 from rfl]
    omega
theorem valB_get {xs : List Int} (h : ∀ x ∈ xs, 0 ≤ x ∧ x ≤ 255) : ∀ t, t < xs.length → xs[t]? = some ((valB xs / 2 ^ (8 * t) % 256 : Nat) : Int) := by
  induction xs with
  | nil => intro t ht; simp at ht
  | cons x xs ih =>
    intro t ht
    have hx := h x (by simp)
    cases t with
    | zero =>
      simp only [List.getElem?_cons_zero, valB, Nat.mul_zero, Nat.pow_zero, Nat.div_one]
      congr 1; omega
    | succ t =>
      rw [List.getElem?_cons_succ, ih (fun y hy => h y (by simp [hy])) t (by simpa using ht)]
      congr 2
      rw [valB, Nat.mul_add, Nat.add_comm (8 * t), Nat.pow_add, show 2 ^ (8 * 1) = 256 from rfl, ← Nat.div_div_eq_div_mul]
      congr 2
      omega
theorem bytes_app {N m : Nat} {xs : List Int} (hN : N < 2 ^ m) (h8 : m % 8 = 0) (h : ∀ x ∈ xs, 0 ≤ x ∧ x ≤ 255) :
    bytesOf N m ++ xs = bytesOf (N + valB xs * 2 ^ m) (m + 8 * xs.length) := by
  apply List.ext_getElem?
  intro j
  by_cases hj : j < m / 8
  · rw [List.getElem?_append_left (by rw [bytesOf_length]; omega), bytesOf_get (by omega), bytesOf_get (by omega), low_same hj]
  · rw [List.getElem?_append_right (by rw [bytesOf_length]; omega), bytesOf_length]
    by_cases hl : j - m / 8 < xs.length
    · rw [bytesOf_get (by omega), show j - (m + 7) / 8 = j - m / 8 from by omega, valB_get h _ hl]
      congr 3
      rw [show 8 * j = m + 8 * (j - m / 8) from by omega, Nat.pow_add, ← Nat.div_div_eq_div_mul, Nat.add_mul_div_right _ _ (Nat.two_pow_pos _), Nat.div_eq_of_lt hN, Nat.zero_add]
    · rw [List.getElem?_eq_none (by omega), List.getElem?_eq_none (by rw [bytesOf_length]; omega)]
theorem valB_snoc (xs : List Int) (x : Int) : valB (xs ++ [x]) = valB xs + x.toNat * 2 ^ (8 * xs.length) := by
  induction xs with
  | nil => simp [valB]
  | cons y ys ih =>
    rw [List.cons_append, valB, valB, ih, List.length_cons, Nat.mul_add 8, Nat.pow_add, show 2 ^ (8 * 1) = 256 from rfl, Nat.mul_add, ← Nat.mul_assoc, Nat.add_assoc]
    congr 2
    rw [Nat.mul_comm 256, Nat.mul_assoc, Nat.mul_comm 256]
theorem valB_take (xs : List Int) (j : Nat) (h : j < xs.length) : valB (xs.take (j + 1)) = valB (xs.take j) + (xs[j]).toNat * 2 ^ (8 * j) := by
  rw [List.take_succ_eq_append_getElem h, valB_snoc, List.length_take, Nat.min_eq_left (by omega)]
end Go.Proofs.YtkdgfioigkijgaaGreat.Num
