/- Chapter 09: the plain lengths. No condition. -/
import Derived.Test.YtlfckpmdmkccjaaBlkF
import Derived.Test.YtlfckpmdmkccjaaCodeC
set_option linter.unusedVariables false
set_option linter.unusedSimpArgs false
set_option maxRecDepth 100000
namespace Go.Proofs.Ytlfckpmdmkccjaa.Blk
open Go.RowKit Go.Proofs.Ytlfckpmdmkccjaa.Lib Go.Proofs.Ytlfckpmdmkccjaa.Ints
def fill (f : Nat → Int) (n j : Nat) : List Int := (List.range n).map fun i => if i < j then f i else 0
theorem fill_len (f : Nat → Int) (n j : Nat) : (fill f n j).length = n := by simp [fill]
theorem fill_zero (f : Nat → Int) (n : Nat) : (madeCells (Value.int .i64 0).cells (n * 1)).toList = i64s (fill f n 0) := by
  rw [show (Value.int .i64 0).cells = #[Value.int .i64 0] from rfl, toList_madeCells_one (Value.int .i64 0) (n * 1), Nat.mul_one]
  apply List.ext_getElem?
  intro k
  by_cases h : k < n <;> simp [i64s, fill, h]
theorem fill_set (f : Nat → Int) (n j : Nat) : (i64s (fill f n j)).set j (.int .i64 (f j)) = i64s (fill f n (j + 1)) := by
  apply List.ext_getElem?
  intro k
  by_cases h : k < n
  · by_cases e : j = k
    · subst e
      simp [i64s, fill, h]
    · rw [List.getElem?_set_ne e]
      simp only [i64s, fill, List.getElem?_map, List.getElem?_range h, Option.map_some]
      by_cases h2 : k < j
      · rw [if_pos h2, if_pos (by omega)]
      · rw [if_neg h2, if_neg (by omega)]
  · rw [List.getElem?_eq_none (by simp [i64s, fill]; omega), List.getElem?_eq_none (by simp [i64s, fill]; omega)]
def litF (i : Nat) : Int := if i < 144 then 8 else if i < 256 then 9 else if i < 280 then 7 else 8
def plainLit : List Int := fill litF 288 288
def plainDist : List Int := fill (fun _ => 5) 32 32
def PlPost (w w' : World) (e : Ending) : Prop := ∃ g h, e = .returned (.tuple #[.slice (some ⟨g, 0, none⟩) 288 288, .slice (some ⟨h, 0, none⟩) 32 32]) ∧ w'.ownsRow 0 3 1 (.slice (some ⟨g, 0, none⟩) 288 288) 288 (i64s plainLit) ∧ w'.ownsRow 0 3 1 (.slice (some ⟨h, 0, none⟩) 32 32) 32 (i64s plainDist) ∧ w.heap.size ≤ g ∧ w.heap.size ≤ h ∧ g ≠ h ∧ Fr w w' []
set_option maxHeartbeats 8000000 in
theorem plainLens_any (w : World) : Calls Try.prog 13 #[] w fun e w' => PlPost w w' e := by
  obtain ⟨j0, hj0, hj1, hj2, hj3⟩ := info_parts infoI64
  go_enter Try.func13, Try.ntmps13
  go_upto_region 2 with (refine wpList_make_full _ rfl _ _ 27 rfl 0 3 j0 (.int .i64 0) 1 Try.underlying27 hj0 hj1 hj2 .i64 .i64 _ _ 288 rfl rfl rfl rfl (by rw [hj3]; omega) (by unfold maxLen; omega) (Nat.zero_le _) ?_; intro w1 hown1 hgrow1; rw [fill_zero litF 288] at hown1; have O1 := Hd.mk hown1; have F1 : Hd (Fr w w1 []) := ⟨(Fr.refl w []).grown hgrow1 (by simp)⟩; clear hown1 hgrow1)
  have hg1 : w.heap.size ≤ w.heap.size := Nat.le_refl _
  obtain ⟨g, hg⟩ : ∃ g, g = w.heap.size := ⟨_, rfl⟩
  rw [← hg] at O1 ⊢
  have hgb : w.heap.size ≤ g := by omega
  clear hg hg1
  go_wp2
  go_loopg [9] 288 (fun kq jv wr => ∃ j : Nat, jv = .int .i64 (j : Nat) ∧ j + kq = 288 ∧ Hd (wr.ownsRow 0 3 1 (.slice (some ⟨g, 0, none⟩) 288 288) 288 (i64s (fill litF 288 j))) ∧ Hd (Fr w wr []))
  case atStart => exact ⟨0, rfl, by omega, O1, F1⟩
  case round =>
    obtain ⟨j, rfl, hj, HO, HF⟩ := hrel
    by_cases h1 : j < 288
    · have HO2 := Hd.mk ((HO.out.stored j (.int .i64 (litF j))).1)
      rw [fill_set] at HO2
      obtain ⟨u0, y0, f0⟩ := Code.own_any HO.out (j := j) (by omega)
      have HL : Hd (litF j = if j < 144 then 8 else if j < 256 then 9 else if j < 280 then 7 else 8) := ⟨rfl⟩
      by_cases h2 : j < 144
      · rw [HL.out, if_pos h2] at HO2
        go_wp2
        go_roundg (gk - 1)
        case measure => omega
        case rel => exact ⟨j + 1, by go_num, by omega, HO2, ⟨HF.out.setCell _ (.inr hgb)⟩⟩
      by_cases h3 : j < 256
      · rw [HL.out, if_neg h2, if_pos h3] at HO2
        go_wp2
        go_roundg (gk - 1)
        case measure => omega
        case rel => exact ⟨j + 1, by go_num, by omega, HO2, ⟨HF.out.setCell _ (.inr hgb)⟩⟩
      by_cases h4 : j < 280
      · rw [HL.out, if_neg h2, if_neg h3, if_pos h4] at HO2
        go_wp2
        go_roundg (gk - 1)
        case measure => omega
        case rel => exact ⟨j + 1, by go_num, by omega, HO2, ⟨HF.out.setCell _ (.inr hgb)⟩⟩
      · rw [HL.out, if_neg h2, if_neg h3, if_neg h4] at HO2
        go_wp2
        go_roundg (gk - 1)
        case measure => omega
        case rel => exact ⟨j + 1, by go_num, by omega, HO2, ⟨HF.out.setCell _ (.inr hgb)⟩⟩
    · obtain rfl : j = 288 := by omega
      go_upto_region 14 with (refine wpList_make_full _ rfl _ _ 27 rfl 0 3 j0 (.int .i64 0) 1 Try.underlying27 hj0 hj1 hj2 .i64 .i64 _ _ 32 rfl rfl rfl rfl (by rw [hj3]; omega) (by unfold maxLen; omega) (Nat.zero_le _) ?_; intro w2 hown1 hgrow1; rw [fill_zero (fun _ => 5) 32] at hown1; have O2 := Hd.mk hown1; have F2 : Hd (Fr w w2 []) := ⟨HF.out.grown hgrow1 (by simp)⟩; have G2 := Hd.mk (own_frame HO.out ((Fr.refl _ []).grown hgrow1 (by simp)) (by simp)); clear hown1 hgrow1)
      obtain ⟨h, hh⟩ : ∃ h, h = wr.heap.size := ⟨_, rfl⟩
      have hne : g ≠ h := by have := own_lt HO.out (k := g) rfl; omega
      have hhb : w.heap.size ≤ h := by have := HF.out.size; omega
      rw [← hh] at O2 ⊢
      clear hh HO HF
      go_wp2
      go_loopg [37] 32 (fun kq jv wr => ∃ j : Nat, jv = .int .i64 (j : Nat) ∧ j + kq = 32 ∧ Hd (wr.ownsRow 0 3 1 (.slice (some ⟨g, 0, none⟩) 288 288) 288 (i64s plainLit)) ∧ Hd (wr.ownsRow 0 3 1 (.slice (some ⟨h, 0, none⟩) 32 32) 32 (i64s (fill (fun _ => 5) 32 j))) ∧ Hd (Fr w wr []))
      case atStart => exact ⟨0, rfl, by omega, G2, O2, F2⟩
      case round =>
        obtain ⟨j, rfl, hj, HG, HO, HF⟩ := hrel
        by_cases h1 : j < 32
        · have HO2 := Hd.mk ((HO.out.stored j (.int .i64 5)).1)
          rw [fill_set (fun _ => 5)] at HO2
          obtain ⟨u0, y0, f0⟩ := Code.own_any HO.out (j := j) (by omega)
          have HG2 := Hd.mk (own_setFar HG.out (a := ⟨h, j, none⟩) (.int .i64 5) (by simp [Value.ownBlock]; exact hne))
          go_wp2
          go_roundg (gk - 1)
          case measure => omega
          case rel => exact ⟨j + 1, by go_num, by omega, HG2, HO2, ⟨HF.out.setCell _ (.inr hhb)⟩⟩
        · obtain rfl : j = 32 := by omega
          go_wp2
          go_ret2
          exact ⟨g, h, rfl, HG.out, HO.out, hgb, hhb, hne, HF.out⟩
end Go.Proofs.Ytlfckpmdmkccjaa.Blk
