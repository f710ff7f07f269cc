/- The document's writer (sapperref03): what each method answers and leaves behind. Conditions: fewer than 2^46 bits. -/
import Derived.Test.YtpblcbfjlmekeaaRefR
set_option linter.unusedVariables false
set_option linter.unusedSimpArgs false
namespace Go.Proofs.Ytpblcbfjlmekeaa.Bits
open Go.RowKit Go.Proofs.Ytpblcbfjlmekeaa.Lib Go.Proofs.Ytpblcbfjlmekeaa.Num

/-- The document's writer in block g holds the m bits of N; q: the block of its bits. -/
def RW (w : World) (g : Nat) (N m : Nat) (q : Option Nat) : Prop :=
  ∃ A c, w.heap[g]? = some (.cells #[.slice A m c] 57 (0, 0)) ∧ w.ownsRow 0 4 1 (.slice A m c) m (bools N m) ∧ (Value.slice A m c).ownBlock = q ∧ N < 2 ^ m
theorem RW.frame {w w' : World} {g N m : Nat} {q : Option Nat} (hr : RW w g N m q) {F : List Nat} (hf : Fr w w' F) (hg : g ∉ F) (hq : ∀ k, q = some k → k ∉ F) : RW w' g N m q := by
  obtain ⟨A, c, hb, hown, rfl, hV⟩ := hr
  exact ⟨A, c, hf.blk hb hg, own_frame hown hf hq, rfl, hV⟩
theorem RW.lt {w : World} {g N m : Nat} {q : Option Nat} (hr : RW w g N m q) : g < w.heap.size ∧ ∀ k, q = some k → k < w.heap.size := by
  obtain ⟨A, c, hb, hown, rfl, hV⟩ := hr
  exact ⟨blk_lt hb, fun k hk => own_lt hown hk⟩
theorem RW.ne {w : World} {g N m : Nat} {q : Option Nat} (hr : RW w g N m q) : q ≠ some g := by
  obtain ⟨A, c, hb, hown, rfl, hV⟩ := hr
  exact own_ne hown hb (by decide)
theorem rw_new (w : World) : RW (w.alloc (.cells #[.slice none 0 0] 57)) w.heap.size 0 0 none :=
  ⟨none, 0, blk_new w _, own_nil _ _ _ _, rfl, by simp⟩
section
variable {g N m : Nat} {q : Option Nat}
/-- behind an append of one bit -/
theorem wbit_stored {w w1 : World} {A : Option Addr} {c : Nat} {A' : Option Addr} {c' : Nat} {bt : Bool} (hb : w.heap[g]? = some (.cells #[.slice A m c] 57 (0, 0)))
    (hown : w.ownsRow 0 4 1 (.slice A m c) m (bools N m)) (hV : N < 2 ^ m) (O : Obj)
    (hown' : w1.ownsRow 0 4 1 (.slice A' (m + 1) c') (m + 1) (bools N m ++ [.bool bt])) (hg : (w.alloc O).grownBy w1 (Value.slice A m c).ownBlock) (haft : Aft (w.alloc O) (Value.slice A m c).ownBlock (Value.slice A' (m + 1) c').ownBlock) :
    RW (w1.setCell ⟨g, 0, none⟩ (.slice A' (m + 1) c')) g (N + bt.toNat * 2 ^ m) (m + 1) (Value.slice A' (m + 1) c').ownBlock ∧ Aft w (Value.slice A m c).ownBlock (Value.slice A' (m + 1) c').ownBlock ∧
      Fr w (w1.setCell ⟨g, 0, none⟩ (.slice A' (m + 1) c')) (g :: (Value.slice A m c).ownBlock.toList) := by
  have hb1 := blk_grown hg (blk_alloc hb O) (own_ne hown hb (by decide)).symm
  have hne := own_ne hown' hb1 (by decide)
  rw [bools_snoc hV] at hown'
  refine ⟨⟨A', c', by simpa using blk_set hb1 0 (.slice A' (m + 1) c'), own_setFar hown' _ hne, rfl, grow_lt hV (by cases bt <;> decide)⟩, ?_, ?_⟩
  · rcases haft with e | ⟨k, e, hk⟩
    · exact .inl e
    · exact .inr ⟨k, e, by simp at hk; omega⟩
  · exact (((Fr.refl w _).alloc O).grown hg (fun k hk => .inl (by simp [hk]))).setCell _ (.inl (by simp))
theorem wput_no (a n : Int) (v : Nat) (w : World) (ha : a = (v : Nat)) (hm0 : mayN v n ≠ 0) :
    Calls Try.prog 39 #[.pointer (some ⟨g, 0, none⟩), .int .u64 a, .int .i64 n] w fun e w' => e = .returned (.int .i64 (mayN v n)) ∧ w = w' := by
  subst ha
  by_cases h1 : n < 0
  · have Hm : Hd (mayN v n = 30) := ⟨by unfold mayN; rw [if_pos (by omega)]⟩
    clear hm0
    go_enter Try.func39, Try.ntmps39
    go_wp2
    go_ret
    exact ⟨by rw [Hm.out]; rfl, rfl⟩
  · by_cases h2 : 56 < n
    · have Hm : Hd (mayN v n = 30) := ⟨by unfold mayN; rw [if_pos (by omega)]⟩
      clear hm0
      go_enter Try.func39, Try.ntmps39
      go_wp2
      go_ret
      exact ⟨by rw [Hm.out]; rfl, rfl⟩
    · obtain ⟨n, rfl⟩ := Int.eq_ofNat_of_zero_le (show 0 ≤ n by omega)
      have hm : mayN v n = if v / 2 ^ n = 0 then 0 else 31 := by unfold mayN; rw [if_neg (by omega)]; rfl
      have h3 : ¬ v / 2 ^ n = 0 := by intro e; rw [hm, if_pos e] at hm0; exact hm0 rfl
      have Hm : Hd (mayN v n = 31) := ⟨by rw [hm, if_neg h3]⟩
      have hz0 : (0 : Int) < (v : Int) / 2 ^ n := by rw [div_cast]; exact Int.natCast_pos.2 (Nat.pos_of_ne_zero h3)
      clear hm0 hm
      go_enter Try.func39, Try.ntmps39
      go_wp2
      go_ret
      exact ⟨by rw [Hm.out]; rfl, rfl⟩
theorem wturned_no (a n : Int) (v : Nat) (w : World) (ha : a = (v : Nat)) (hm0 : mayN v n ≠ 0) :
    Calls Try.prog 40 #[.pointer (some ⟨g, 0, none⟩), .int .u64 a, .int .i64 n] w fun e w' => e = .returned (.int .i64 (mayN v n)) ∧ w = w' := by
  subst ha
  by_cases h1 : n < 0
  · have Hm : Hd (mayN v n = 30) := ⟨by unfold mayN; rw [if_pos (by omega)]⟩
    clear hm0
    go_enter Try.func40, Try.ntmps40
    go_wp2
    go_ret
    exact ⟨by rw [Hm.out]; rfl, rfl⟩
  · by_cases h2 : 56 < n
    · have Hm : Hd (mayN v n = 30) := ⟨by unfold mayN; rw [if_pos (by omega)]⟩
      clear hm0
      go_enter Try.func40, Try.ntmps40
      go_wp2
      go_ret
      exact ⟨by rw [Hm.out]; rfl, rfl⟩
    · obtain ⟨n, rfl⟩ := Int.eq_ofNat_of_zero_le (show 0 ≤ n by omega)
      have hm : mayN v n = if v / 2 ^ n = 0 then 0 else 31 := by unfold mayN; rw [if_neg (by omega)]; rfl
      have h3 : ¬ v / 2 ^ n = 0 := by intro e; rw [hm, if_pos e] at hm0; exact hm0 rfl
      have Hm : Hd (mayN v n = 31) := ⟨by rw [hm, if_neg h3]⟩
      have hz0 : (0 : Int) < (v : Int) / 2 ^ n := by rw [div_cast]; exact Int.natCast_pos.2 (Nat.pos_of_ne_zero h3)
      clear hm0 hm
      go_enter Try.func40, Try.ntmps40
      go_wp2
      go_ret
      exact ⟨by rw [Hm.out]; rfl, rfl⟩
theorem hand_bit {v i : Nat} (hv : v < 2 ^ 64) : (Go.bits .and .u64 ((v : Int) / 2 ^ i) 1 == 1) = v.testBit i := by
  have hle : v / 2 ^ i ≤ v := Nat.div_le_self _ _
  rw [div_cast, n64and1 (by omega), Nat.testBit_eq_decide_div_mod_eq, Bool.eq_iff_iff]
  simp only [beq_iff_eq, decide_eq_true_eq]
  omega
theorem wput_ok (a n : Int) (v : Nat) (w : World) (ha : a = (v : Nat)) (hm0 : mayN v n = 0) (hm : m + n.toNat ≤ 70368744177664) (hT : RW w g N m q) :
    Calls Try.prog 39 #[.pointer (some ⟨g, 0, none⟩), .int .u64 a, .int .i64 n] w fun e w' => e = .returned (.int .i64 0) ∧
      ∃ q', RW w' g (N + v * 2 ^ m) (m + n.toNat) q' ∧ Aft w q q' ∧ Fr w w' (g :: q.toList) := by
  subst ha
  obtain ⟨i0, hi0, hz0, hz1, hz2⟩ := info_parts infoBool
  obtain ⟨h0, h1, h2⟩ := mayN_zero hm0
  obtain ⟨n, rfl⟩ := Int.eq_ofNat_of_zero_le h0
  rw [Int.toNat_natCast] at *
  have hv64 : Hd (v < 2 ^ 64) := ⟨Nat.lt_of_lt_of_le h2 (Nat.pow_le_pow_right (by decide) (by omega))⟩
  have hvn := Hd.mk h2
  have hz : (v : Int) / 2 ^ n = 0 := by rw [div_cast, Nat.div_eq_of_lt h2]; rfl
  have HT := Hd.mk hT
  clear hm0 hT h2
  go_enter Try.func39, Try.ntmps39
  go_wp2
  go_loopg [7] n (fun kq iv wr => ∃ i N2 m2 : Nat, iv = .int .i64 (i : Nat) ∧ i + kq = n ∧ m2 + kq ≤ 70368744177664 ∧ Hd (N2 = N + v % 2 ^ i * 2 ^ m ∧ m2 = m + i) ∧ ∃ q', RW wr g N2 m2 q' ∧ Aft w q q' ∧ Fr w wr (g :: q.toList))
  case atStart => exact ⟨0, N, m, rfl, by omega, by omega, ⟨by simp [Nat.mod_one], rfl⟩, q, HT.out, Aft.refl _ _, Fr.refl _ _⟩
  case round =>
    obtain ⟨i, N2, m2, rfl, hi, hb22, HE2, q2, hr2, ha2, hf2⟩ := hrel
    have HR2 := Hd.mk hr2
    have HA2 := Hd.mk ha2
    have HF2 := Hd.mk hf2
    clear hz
    by_cases hlt2 : i < n
    · obtain ⟨A2, c2, hblk, hown, hq2, hV2⟩ := hr2
      have k0 := blk_cell hblk 0
      have f0 := blk_frozen hblk 0
      simp only [List.getElem?_toArray, List.getElem?_cons_zero, List.getElem?_cons_succ] at k0
      have ka := blk_cell (blk_alloc hblk (.cells #[.bool (v.testBit i)] 4)) 0
      simp only [List.getElem?_toArray, List.getElem?_cons_zero] at ka
      have HB := Hd.mk hblk
      have HO := Hd.mk hown
      have HQ2 := Hd.mk hq2
      have HV2 := Hd.mk hV2
      have HNE := Hd.mk (own_ne hown hblk (by decide))
      obtain ⟨bt, hbt⟩ : ∃ bt, bt = v.testBit i := ⟨_, rfl⟩
      rw [← hbt] at ka
      have hand : (Go.bits .and .u64 ((v : Int) / 2 ^ i) 1 == 1) = bt := by rw [hbt]; exact hand_bit hv64.out
      have Hbt := Hd.mk hbt
      clear hblk hown hq2 hV2 hbt hf2 ha2
      go_wp2
      go_region_law (refine step_append_sl rfl (.tmp 27) (.tmp 33) 29 rfl 4 i0 (.bool false) 1 1 Try.underlying29 hi0 hz0 hz1 hz2 rfl (by decide) (.slice A2 m2 c2) m2 (bools N2 m2) (by simp [Act.eval, Act.put]) (by exact HO.out.alloc _) (some ⟨wr.heap.size, 0, none⟩) 1 1 [.bool bt] (some wr.heap.size) (by simp [Act.eval, Act.put]) rfl (by exact sl_of_blk (blk_new _ _)) (by intro h; cases h) (by intro u hu; simp at hu; subst hu; rfl) (by unfold maxLen; omega) (by omega) ?_; intro A' c' w1 hown' hgrow haft; have hb1 := blk_grown hgrow (by exact blk_alloc HB.out _) HNE.out.symm; have k1 := blk_cell hb1 0; have f1 := blk_frozen hb1 0; simp only [List.getElem?_toArray, List.getElem?_cons_zero] at k1; have R := wbit_stored (bt := bt) HB.out HO.out HV2.out (.cells #[.bool bt] 4) hown' ⟨hgrow.os, hgrow.tape, hgrow.output, hgrow.size, hgrow.block⟩ haft; have HRR := Hd.mk R; clear hown' hgrow haft hb1 R)
      all_goals
        go_wp2
        go_roundg (gk - 1)
        case measure => omega
        case rel =>
          have h := HRR.out
          rw [HQ2.out] at h
          obtain ⟨r1, r2, r3⟩ := h
          refine ⟨i + 1, N2 + bt.toNat * 2 ^ m2, m2 + 1, by go_num, by omega, by omega, ⟨?_, by have := HE2.out.2; omega⟩, _, r1, HA2.out.trans r2 HF2.out.size, HF2.out.trans r3 (fun y hy hyG => ?_)⟩
          · rw [HE2.out.1, HE2.out.2, Hbt.out, low_bit, Nat.add_mul, Nat.mul_assoc, ← Nat.pow_add, Nat.add_comm m i, Nat.add_assoc]
          · rcases List.mem_cons.1 hyG with rfl | e
            · simp
            · rcases HA2.out.mem e with h | h
              · exact List.mem_cons_of_mem _ h
              · omega
    · obtain rfl : i = n := by omega
      clear hr2 ha2 hf2
      go_wp2
      go_ret
      obtain ⟨e1, e2⟩ := HE2.out
      rw [Nat.mod_eq_of_lt hvn.out] at e1
      subst e1 e2
      exact ⟨rfl, q2, HR2.out, HA2.out, HF2.out⟩
theorem wturned_ok (a n : Int) (v : Nat) (w : World) (ha : a = (v : Nat)) (hm0 : mayN v n = 0) (hm : m + n.toNat ≤ 70368744177664) (hT : RW w g N m q) :
    Calls Try.prog 40 #[.pointer (some ⟨g, 0, none⟩), .int .u64 a, .int .i64 n] w fun e w' => e = .returned (.int .i64 0) ∧
      ∃ q', RW w' g (N + rv v n.toNat * 2 ^ m) (m + n.toNat) q' ∧ Aft w q q' ∧ Fr w w' (g :: q.toList) := by
  subst ha
  obtain ⟨i0, hi0, hz0, hz1, hz2⟩ := info_parts infoBool
  obtain ⟨h0, h1, h2⟩ := mayN_zero hm0
  obtain ⟨n, rfl⟩ := Int.eq_ofNat_of_zero_le h0
  rw [Int.toNat_natCast] at *
  have hv64 : Hd (v < 2 ^ 64) := ⟨Nat.lt_of_lt_of_le h2 (Nat.pow_le_pow_right (by decide) (by omega))⟩
  have hz : (v : Int) / 2 ^ n = 0 := by rw [div_cast, Nat.div_eq_of_lt h2]; rfl
  have HT := Hd.mk hT
  clear hm0 hT h2
  go_enter Try.func40, Try.ntmps40
  go_wp2
  go_loopg [7] n (fun kq iv wr => ∃ i N2 m2 : Nat, iv = .int .i64 ((kq : Int) - 1) ∧ i + kq = n ∧ m2 + kq ≤ 70368744177664 ∧ Hd (N2 = N + rv v n % 2 ^ i * 2 ^ m ∧ m2 = m + i) ∧ ∃ q', RW wr g N2 m2 q' ∧ Aft w q q' ∧ Fr w wr (g :: q.toList))
  case atStart => exact ⟨0, N, m, by go_num, by omega, by omega, ⟨by simp [Nat.mod_one], rfl⟩, q, HT.out, Aft.refl _ _, Fr.refl _ _⟩
  case round =>
    obtain ⟨i, N2, m2, rfl, hi, hb22, HE2, q2, hr2, ha2, hf2⟩ := hrel
    have HR2 := Hd.mk hr2
    have HA2 := Hd.mk ha2
    have HF2 := Hd.mk hf2
    clear hz
    by_cases hlt2 : i < n
    · obtain ⟨j, rfl⟩ : ∃ j, gk = j + 1 := ⟨gk - 1, by omega⟩
      have hj : ((j + 1 : Nat) : Int) - 1 = (j : Int) := by omega
      rw [hj]
      clear hj
      obtain ⟨A2, c2, hblk, hown, hq2, hV2⟩ := hr2
      have k0 := blk_cell hblk 0
      have f0 := blk_frozen hblk 0
      simp only [List.getElem?_toArray, List.getElem?_cons_zero, List.getElem?_cons_succ] at k0
      have ka := blk_cell (blk_alloc hblk (.cells #[.bool (v.testBit j)] 4)) 0
      simp only [List.getElem?_toArray, List.getElem?_cons_zero] at ka
      have HB := Hd.mk hblk
      have HO := Hd.mk hown
      have HQ2 := Hd.mk hq2
      have HV2 := Hd.mk hV2
      have HNE := Hd.mk (own_ne hown hblk (by decide))
      obtain ⟨bt, hbt⟩ : ∃ bt, bt = v.testBit j := ⟨_, rfl⟩
      rw [← hbt] at ka
      have hand : (Go.bits .and .u64 ((v : Int) / 2 ^ j) 1 == 1) = bt := by rw [hbt]; exact hand_bit hv64.out
      have Hbt : Hd (bt = (rv v n).testBit i) := ⟨by rw [hbt, rv_bit, decide_eq_true hlt2, Bool.true_and, show n - 1 - i = j from by omega]⟩
      clear hblk hown hq2 hV2 hbt hf2 ha2
      go_wp2
      go_region_law (refine step_append_sl rfl (.tmp 28) (.tmp 34) 29 rfl 4 i0 (.bool false) 1 1 Try.underlying29 hi0 hz0 hz1 hz2 rfl (by decide) (.slice A2 m2 c2) m2 (bools N2 m2) (by simp [Act.eval, Act.put]) (by exact HO.out.alloc _) (some ⟨wr.heap.size, 0, none⟩) 1 1 [.bool bt] (some wr.heap.size) (by simp [Act.eval, Act.put]) rfl (by exact sl_of_blk (blk_new _ _)) (by intro h; cases h) (by intro u hu; simp at hu; subst hu; rfl) (by unfold maxLen; omega) (by omega) ?_; intro A' c' w1 hown' hgrow haft; have hb1 := blk_grown hgrow (by exact blk_alloc HB.out _) HNE.out.symm; have k1 := blk_cell hb1 0; have f1 := blk_frozen hb1 0; simp only [List.getElem?_toArray, List.getElem?_cons_zero] at k1; have R := wbit_stored (bt := bt) HB.out HO.out HV2.out (.cells #[.bool bt] 4) hown' ⟨hgrow.os, hgrow.tape, hgrow.output, hgrow.size, hgrow.block⟩ haft; have HRR := Hd.mk R; clear hown' hgrow haft hb1 R)
      all_goals
        go_wp2
        go_roundg j
        case measure => omega
        case rel =>
          have h := HRR.out
          rw [HQ2.out] at h
          obtain ⟨r1, r2, r3⟩ := h
          refine ⟨i + 1, N2 + bt.toNat * 2 ^ m2, m2 + 1, by go_num, by omega, by omega, ⟨?_, by have := HE2.out.2; omega⟩, _, r1, HA2.out.trans r2 HF2.out.size, HF2.out.trans r3 (fun y hy hyG => ?_)⟩
          · rw [HE2.out.1, HE2.out.2, Hbt.out, low_bit, Nat.add_mul, Nat.mul_assoc, ← Nat.pow_add, Nat.add_comm m i, Nat.add_assoc]
          · rcases List.mem_cons.1 hyG with rfl | e
            · simp
            · rcases HA2.out.mem e with h | h
              · exact List.mem_cons_of_mem _ h
              · omega
    · obtain rfl : i = n := by omega
      obtain rfl : gk = 0 := by omega
      clear hr2 ha2 hf2
      go_wp2
      go_ret
      obtain ⟨e1, e2⟩ := HE2.out
      rw [Nat.mod_eq_of_lt (rv_lt _ _)] at e1
      subst e1 e2
      exact ⟨rfl, q2, HR2.out, HA2.out, HF2.out⟩
theorem walign_any (w : World) (hm : m + 8 ≤ 70368744177664) (hT : RW w g N m q) :
    Calls Try.prog 41 #[.pointer (some ⟨g, 0, none⟩)] w fun e w' => e = .returned (.int .i64 (((8 - m % 8) % 8 : Nat) : Int)) ∧
      ∃ q', RW w' g N (m + (8 - m % 8) % 8) q' ∧ Aft w q q' ∧ Fr w w' (g :: q.toList) := by
  obtain ⟨i0, hi0, hz0, hz1, hz2⟩ := info_parts infoBool
  have HT := Hd.mk hT
  clear hT
  obtain ⟨n, hn⟩ : ∃ n, n = (8 - m % 8) % 8 := ⟨_, rfl⟩
  have Hn := Hd.mk hn
  have hn8 : n ≤ 7 := by omega
  rw [← hn]
  clear hn
  go_enter Try.func41, Try.ntmps41
  go_wp2
  go_loopg [3] n (fun kq iv wr => ∃ i : Nat, iv = .int .i64 (i : Nat) ∧ i + kq = n ∧ ∃ q', RW wr g N (m + i) q' ∧ Aft w q q' ∧ Fr w wr (g :: q.toList))
  case atStart => exact ⟨0, rfl, by omega, q, HT.out, Aft.refl _ _, Fr.refl _ _⟩
  case round =>
    obtain ⟨i, rfl, hi, q2, hr2, ha2, hf2⟩ := hrel
    have HR2 := Hd.mk hr2
    have HA2 := Hd.mk ha2
    have HF2 := Hd.mk hf2
    obtain ⟨A2, c2, hblk, hown, hq2, hV2⟩ := hr2
    have k0 := blk_cell hblk 0
    have f0 := blk_frozen hblk 0
    simp only [List.getElem?_toArray, List.getElem?_cons_zero, List.getElem?_cons_succ] at k0
    by_cases hlt2 : i < n
    · have HB := Hd.mk hblk
      have HO := Hd.mk hown
      have HQ2 := Hd.mk hq2
      have HV2 := Hd.mk hV2
      have HNE := Hd.mk (own_ne hown hblk (by decide))
      have h8 : (((m : Int) + i) % 8 == 0) = false := by have := Hn.out; simp; omega
      clear hblk hown hq2 hV2 hf2 ha2
      go_wp2_with (at_builtin; refine wpList_append_sl rfl (.tmp 15) (.tmp 16) 29 rfl 4 i0 (.bool false) 1 1 Try.underlying29 hi0 hz0 hz1 hz2 rfl (by decide) (.slice A2 (m + i) c2) (m + i) (bools N (m + i)) rfl (by exact HO.out.alloc _) (some ⟨wr.heap.size, 0, none⟩) 1 1 [.bool false] (some wr.heap.size) rfl rfl (by exact sl_of_blk (blk_new _ _)) (by intro h; cases h) (by intro u hu; simp at hu; subst hu; rfl) (by unfold maxLen; omega) (by omega) ?_; intro A' c' w1 hown' hgrow haft; have hb1 := blk_grown hgrow (by exact blk_alloc HB.out _) HNE.out.symm; have k1 := blk_cell hb1 0; have f1 := blk_frozen hb1 0; simp only [List.getElem?_toArray, List.getElem?_cons_zero] at k1; have R := wbit_stored (bt := false) HB.out HO.out HV2.out (.cells #[.bool false] 4) hown' hgrow haft; have HRR := Hd.mk R; clear hown' hgrow haft hb1 R)
      go_roundg (gk - 1)
      case measure => omega
      case rel =>
        have h := HRR.out
        rw [HQ2.out] at h
        obtain ⟨r1, r2, r3⟩ := h
        refine ⟨i + 1, by go_num, by omega, _, by simpa [Nat.add_assoc] using r1, HA2.out.trans r2 HF2.out.size, HF2.out.trans r3 (fun y hy hyG => ?_)⟩
        rcases List.mem_cons.1 hyG with rfl | e
        · simp
        · rcases HA2.out.mem e with h | h
          · exact List.mem_cons_of_mem _ h
          · omega
    · obtain rfl : i = n := by omega
      have h8 : (((m : Int) + i) % 8 == 0) = true := by have := Hn.out; simp; omega
      clear hblk hown hq2 hV2 hf2 ha2
      go_wp2
      go_ret
      exact ⟨rfl, q2, HR2.out, HA2.out, HF2.out⟩
theorem wwhole_any (w : World) (A : Option Addr) (l c : Nat) (xs : List Int) (qx : Option Nat) (hlen : xs.length = l) (hx : ∀ x ∈ xs, 0 ≤ x ∧ x ≤ 255) (hS : Sl w A (u8s xs) qx)
    (hq : ∀ k, qx = some k → k ∉ g :: q.toList) (hm : m + 8 + 8 * l ≤ 70368744177664) (hT : RW w g N m q) :
    Calls Try.prog 42 #[.pointer (some ⟨g, 0, none⟩), .slice A l c] w fun e w' => e = .returned (.tuple #[]) ∧
      ∃ q', RW w' g (N + valB xs * 2 ^ (m + (8 - m % 8) % 8)) (m + (8 - m % 8) % 8 + 8 * l) q' ∧ Aft w q q' ∧ Fr w w' (g :: q.toList) := by
  subst hlen
  have HT := Hd.mk hT
  have HS := Hd.mk hS
  have HX := Hd.mk hx
  have HQ := Hd.mk hq
  obtain ⟨M, hM⟩ : ∃ M, M = m + (8 - m % 8) % 8 := ⟨_, rfl⟩
  have hMm : M ≤ m + 7 := by omega
  have HM := Hd.mk hM
  rw [← hM]
  clear hT hS hx hq hM
  go_enter Try.func42, Try.ntmps42
  go_wp2_with (fail)
  refine (walign_any w (by omega) HT.out).mono ?_
  rintro e w1 ⟨rfl, q1, h1, h2, h3⟩
  rw [← HM.out] at h1
  have H1 := Hd.mk h1
  have H2 := Hd.mk h2
  have H3 := Hd.mk h3
  clear h1 h2 h3
  go_wp2
  go_loopg [10] xs.length (fun kq iv wr => ∃ i : Nat, iv = .int .i64 (i : Nat) ∧ i + kq = xs.length ∧ ∃ q', Hd (RW wr g (N + valB (xs.take i) * 2 ^ M) (M + 8 * i) q') ∧ Hd (Aft w q q') ∧ Hd (Fr w wr (g :: q.toList)))
  case atStart => exact ⟨0, rfl, by omega, q1, ⟨by simpa [valB] using H1.out⟩, H2, H3⟩
  case round =>
    obtain ⟨i, rfl, hi, q2, HR2, HA2, HF2⟩ := hrel
    by_cases hlt : i < xs.length
    · obtain ⟨p, off, rfl, hp, hcell⟩ := (HS.out.frame HF2.out HQ.out) (by simp [u8s]; omega)
      have hxj := HX.out (xs[i]'hlt) (List.getElem_mem _)
      obtain ⟨x, hx⟩ : ∃ x : Nat, xs[i]'hlt = (x : Int) := Int.eq_ofNat_of_zero_le hxj.1
      have hcj := (hcell i (by simp [u8s]; omega)).trans (by rw [u8s_get, List.getElem?_eq_getElem (by omega), hx])
      have hx255 : (x : Int) ≤ 255 := by omega
      have Hx := Hd.mk hx
      clear hcell hx hxj
      go_wp2_with (fail)
      refine (wput_ok (m := M + 8 * i) (x : Int) 8 x wr rfl (mayN_ok (by decide) (by decide) (by show x < 2 ^ 8; omega)) (by show M + 8 * i + 8 ≤ _; omega) HR2.out).mono ?_
      rintro e w2 ⟨rfl, q3, h1, h2, h3⟩
      have K1 := Hd.mk h1
      have K2 := Hd.mk h2
      have K3 := Hd.mk h3
      clear h1 h2 h3
      go_wp2
      go_roundg (gk - 1)
      case measure => omega
      case rel =>
        refine ⟨i + 1, by go_num, by omega, q3, ⟨?_⟩, ⟨HA2.out.trans K2.out HF2.out.size⟩, ⟨HF2.out.trans K3.out (fun y hy hyG => ?_)⟩⟩
        · have := K1.out
          rw [valB_take xs i hlt, Hx.out, Int.toNat_natCast, Nat.add_mul, Nat.mul_assoc x, ← Nat.pow_add, Nat.add_comm (8 * i) M, ← Nat.add_assoc]
          exact this
        · rcases List.mem_cons.1 hyG with rfl | e
          · simp
          · rcases HA2.out.mem e with h | h
            · exact List.mem_cons_of_mem _ h
            · omega
    · obtain rfl : i = xs.length := by omega
      go_wp2
      go_end0
      have := HR2.out
      rw [List.take_length] at this
      exact ⟨rfl, q2, this, HA2.out, HF2.out⟩
end
end Go.Proofs.Ytpblcbfjlmekeaa.Bits
