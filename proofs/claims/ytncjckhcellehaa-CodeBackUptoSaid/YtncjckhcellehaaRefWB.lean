/- The document's writer's Bytes. Conditions: fewer than 2^46 bits. -/
import Derived.Test.YtncjckhcellehaaRefW
set_option maxRecDepth 100000
set_option linter.unusedVariables false
set_option linter.unusedSimpArgs false
namespace Go.Proofs.Ytncjckhcellehaa.Bits
open Go.RowKit Go.Proofs.Ytncjckhcellehaa.Lib Go.Proofs.Ytncjckhcellehaa.Num
section
variable {g N m : Nat} {q : Option Nat}
theorem bytes_none (m : Nat) : (madeCells (Value.int .u8 0).cells ((m + 7) / 8 * 1)).toList = u8s (bytesOf (N % 2 ^ 0) m) := by
  simp [madeCells, u8s, bytesOf, Value.cells, Nat.mod_one, Nat.mod_one]
theorem bytes_bit {K m i : Nat} (hK : K < 2 ^ i) (hi : i < m) : (bytesOf K m).set (i / 8) ((K / 2 ^ (8 * (i / 8)) + 2 ^ (i % 8) : Nat) : Int) = bytesOf (K + 2 ^ i) m := by
  have h8 : i / 8 < (m + 7) / 8 := by omega
  apply List.ext_getElem?
  intro j
  rw [List.getElem?_set]
  by_cases h1 : i / 8 = j
  · subst h1
    rw [if_pos rfl, if_pos (by rw [bytesOf_length]; exact h8), bytesOf_get h8]
    have a := top_new (N := K) (m := i) (x := 1)
    have b := top_new_lt (x := 1) (k := 1) hK (by decide) (by omega)
    rw [Nat.one_mul] at a b
    rw [Nat.one_mul] at a
    rw [a, Nat.mod_eq_of_lt b]
  · rw [if_neg h1]
    by_cases h2 : j < (m + 7) / 8
    · rw [bytesOf_get h2, bytesOf_get h2]
      congr 2
      by_cases h3 : j < i / 8
      · have := low_same (N := K) (x := 1) h3
        rw [Nat.one_mul] at this
        rw [this]
      · have h4 : K + 2 ^ i < 2 ^ (8 * j) := Nat.lt_of_lt_of_le (show K + 2 ^ i < 2 ^ (i + 1) by rw [Nat.pow_succ]; omega) (Nat.pow_le_pow_right (by decide) (by omega))
        rw [Nat.div_eq_of_lt h4, Nat.div_eq_of_lt (by omega)]
    · rw [List.getElem?_eq_none (by rw [bytesOf_length]; omega), List.getElem?_eq_none (by rw [bytesOf_length]; omega)]
theorem wbytes_any (w : World) (hm : m ≤ 70368744177664) (hT : RW w g N m q) :
    Calls Try.prog 21 #[.pointer (some ⟨g, 0, none⟩)] w fun e w' => ∃ v, e = .returned v ∧
      w'.ownsRow 0 5 1 v ((m + 7) / 8) (u8s (bytesOf N m)) ∧ (∀ k, v.ownBlock = some k → w.heap.size ≤ k) ∧ Fr w w' [] := by
  obtain ⟨i0, hi0, hz0, hz1, hz2⟩ := info_parts infoU8
  obtain ⟨A, c, hb, hown, _, hN⟩ := hT
  have h0 := blk_cell hb 0
  simp only [List.getElem?_toArray, List.getElem?_cons_zero, List.getElem?_cons_succ] at h0
  have HS := Hd.mk (sl_of_own hown)
  have HN := Hd.mk hN
  have HB := Hd.mk hb
  clear hb hown hN
  go_enter Try.func21, Try.ntmps21
  go_wp2_with (refine wpList_make_full _ rfl _ _ 32 rfl 0 5 i0 (.int .u8 0) 1 Try.underlying32 hi0 hz0 hz1 .i64 .i64 _ _ ((m + 7) / 8) rfl rfl (by omega) (by omega) (by rw [hz2]; omega) (by unfold maxLen; omega) (Nat.zero_le _) ?_; intro w1 hown1 hgrow1; have O1 := Hd.mk hown1; have G1 := Hd.mk hgrow1; have h1 := blk_cell (blk_grown hgrow1 HB.out (by simp)) 0; simp only [List.getElem?_toArray, List.getElem?_cons_zero, List.getElem?_cons_succ] at h1; clear hown1 hgrow1)
  go_loopg [19] m (fun kq iv wr => ∃ i : Nat, iv = .int .i64 (i : Nat) ∧ i + kq = m ∧ Hd (wr.ownsRow 0 5 1 (.slice (some ⟨w.heap.size, 0, none⟩) ((m + 7) / 8) ((m + 7) / 8)) ((m + 7) / 8) (u8s (bytesOf (N % 2 ^ i) m))) ∧ Hd (Fr w wr []))
  case atStart => exact ⟨0, rfl, by omega, ⟨by rw [← bytes_none]; exact O1.out⟩, ⟨(Fr.refl w []).grown G1.out (by simp)⟩⟩
  case round =>
    obtain ⟨i, rfl, hi, HO, HF⟩ := hrel
    by_cases hlt : i < m
    · obtain ⟨p, off, rfl, hp, hcell⟩ := (HS.out.frame HF.out (by simp)) (by simp [bools]; omega)
      have hcj := (hcell i (by simp [bools]; omega)).trans (bools_get hlt)
      clear hcell
      by_cases hbit : N.testBit i = true
      · rw [hbit] at hcj
        have hlow : Hd (N % 2 ^ (i + 1) = N % 2 ^ i + 2 ^ i) := ⟨by rw [low_bit, hbit]; simp⟩
        obtain ⟨K, hK⟩ : ∃ K, K = N % 2 ^ i := ⟨_, rfl⟩
        have hKlt : K < 2 ^ i := by rw [hK]; exact Nat.mod_lt _ (Nat.two_pow_pos _)
        rw [← hK] at HO
        have HK := Hd.mk hK
        have HKL := Hd.mk hKlt
        obtain ⟨y, hy⟩ : ∃ y, y = K / 2 ^ (8 * (i / 8)) := ⟨_, rfl⟩
        have hcb : wr.cell? ⟨w.heap.size, i / 8, none⟩ = some (.int .u8 (y : Nat)) := by
          obtain ⟨_, _, e1, _, hc⟩ := sl_of_own HO.out (by simp [u8s, bytesOf]; omega)
          cases e1
          have := hc (i / 8) (by simp [u8s, bytesOf]; omega)
          rw [Nat.zero_add, u8s_get, bytesOf_get (by omega)] at this
          rw [this, hy, Nat.mod_eq_of_lt (top_lt8 hKlt)]
          rfl
        have hfz : wr.frozen? ⟨w.heap.size, i / 8, none⟩ = false := by
          obtain ⟨ds, hds⟩ := own_type HO.out (k := w.heap.size) rfl
          exact blk_frozen hds _
        have hy1 : y + 2 ^ (i % 8) < 256 := by
          have := top_new_lt (x := 1) (k := 1) hKlt (by decide) (by omega)
          rw [← hy] at this; omega
        have HY := Hd.mk hy
        clear hK hKlt hy hbit
        go_wp2
        go_region
        go_wp2
        go_roundg (gk - 1)
        case measure => omega
        case rel =>
          have e : ((y : Int) + 2 ^ (i % 8)) % 256 = ((y + 2 ^ (i % 8) : Nat) : Int) := by
            have e1 : ((2 ^ (i % 8) : Nat) : Int) = 2 ^ (i % 8) := by simp
            rw [← e1, ← Int.natCast_add]
            obtain ⟨z, hz⟩ : ∃ z, z = y + 2 ^ (i % 8) := ⟨_, rfl⟩
            rw [← hz] at hy1 ⊢
            omega
          have h := (HO.out.stored (i / 8) (.int .u8 ((y + 2 ^ (i % 8) : Nat) : Int))).1
          have e2 : (u8s (bytesOf K m)).set (i / 8) (.int .u8 ((y + 2 ^ (i % 8) : Nat) : Int)) = u8s (bytesOf (N % 2 ^ (i + 1)) m) := by
            rw [hlow.out, ← HK.out, ← bytes_bit HKL.out hlt, ← HY.out]
            unfold u8s
            rw [List.map_set]
          rw [e2] at h
          rw [e]
          exact ⟨i + 1, by go_num, by omega, ⟨h⟩, ⟨(HF.out.setCell _ (.inr (Nat.le_refl _))).drew⟩⟩
      · have hb0 : N.testBit i = false := by simpa using hbit
        rw [hb0] at hcj
        have hlow : Hd (N % 2 ^ (i + 1) = N % 2 ^ i) := ⟨by rw [low_bit, hb0]; simp⟩
        clear hbit hb0
        go_wp2
        go_roundg (gk - 1)
        case measure => omega
        case rel => exact ⟨i + 1, by go_num, by omega, ⟨by rw [hlow.out]; exact HO.out⟩, HF⟩
    · obtain rfl : i = m := by omega
      go_wp2
      go_ret
      have := HO.out
      rw [Nat.mod_eq_of_lt HN.out] at this
      exact ⟨_, rfl, this, by intro k hk; simp [Value.ownBlock] at hk; omega, HF.out⟩
end
end Go.Proofs.Ytncjckhcellehaa.Bits
