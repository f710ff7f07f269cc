/- The document's row and Bits, walked. Conditions: none but the slice's. -/
import Derived.Test.YtncjckhcellehaaCodeR
import Derived.Test.YtncjckhcellehaaCodePlain2
import Derived.Test.YtncjckhcellehaaRefW
set_option linter.unusedVariables false
set_option linter.unusedSimpArgs false
set_option maxRecDepth 100000
namespace Go.Proofs.Ytncjckhcellehaa.Code
open Go.RowKit Go.IntWalk Go.Proofs.Ytncjckhcellehaa.Lib Go.Proofs.Ytncjckhcellehaa.Ints Go.Proofs.Ytncjckhcellehaa.Num

theorem and_one {a : Nat} (ha : a < 2 ^ 62) : Go.bits .and .i64 (a : Int) 1 = ((a % 2 : Nat) : Int) := by
  have h := (bits_nat .i64 62 (by decide) (fun n h0 h1 => IntWalk.i64_in n ⟨by omega, by omega⟩) a 1 ha (by decide)).1
  rw [show ((1 : Nat) : Int) = 1 from rfl] at h
  rw [h, Nat.and_one_is_mod]
theorem hand_biti {v i : Nat} (hv : v < 2 ^ 62) : (Go.bits .and .i64 ((v : Int) / 2 ^ i) 1 == 1) = v.testBit i := by
  have hle : v / 2 ^ i ≤ v := Nat.div_le_self _ _
  rw [div_cast, and_one (by omega), Nat.testBit_eq_decide_div_mod_eq, Bool.eq_iff_iff]
  simp only [beq_iff_eq, decide_eq_true_eq]
  omega
set_option maxHeartbeats 8000000 in
theorem row_any (w : World) (c n : Nat) (hc : c < 32768) (hn : n ≤ 15) :
    Calls Try.prog 40 #[.int .i64 (c : Nat), .int .i64 (n : Nat)] w fun e w' => ∃ A d, e = .returned (.slice A n d) ∧ w'.ownsRow 0 4 1 (.slice A n d) n (Bits.bools (rv c n) n) ∧ (∀ y, (Value.slice A n d).ownBlock = some y → w.heap.size ≤ y) ∧ Fr w w' [] := by
  obtain ⟨i0, hi0, hz0, hz1, hz2⟩ := info_parts Bits.infoBool
  go_enter Try.func40, Try.ntmps40
  go_wp2
  go_loopg [5, 6] n (fun kq lv iv wr => ∃ (j : Nat) (A : Option Addr) (d : Nat), lv = .slice A j d ∧ iv = .int .i64 ((kq : Int) - 1) ∧ j + kq = n ∧ Hd (wr.ownsRow 0 4 1 (.slice A j d) j (Bits.bools (rv c n % 2 ^ j) j)) ∧ Hd (∀ y, (Value.slice A j d).ownBlock = some y → w.heap.size ≤ y) ∧ Hd (Fr w wr []))
  case atStart => exact ⟨0, none, 0, rfl, by go_num, by omega, ⟨by simpa [Bits.bools] using own_nil w 0 4 1⟩, ⟨by intro y hy; cases hy⟩, ⟨Fr.refl _ _⟩⟩
  case round =>
    obtain ⟨j, A, d, rfl, rfl, hj, HO, HB, HF⟩ := hrel
    by_cases hlt : j < n
    · obtain ⟨f, rfl⟩ : ∃ f, gk = f + 1 := ⟨gk - 1, by omega⟩
      have hf : ((f + 1 : Nat) : Int) - 1 = (f : Int) := by omega
      rw [hf]
      clear hf
      obtain ⟨bt, hbt⟩ : ∃ bt, bt = c.testBit f := ⟨_, rfl⟩
      have hand : (Go.bits .and .i64 ((c : Int) / 2 ^ f) 1 == 1) = bt := by rw [hbt]; exact hand_biti (by omega)
      have Hbt : Hd (bt = (rv c n).testBit j) := ⟨by rw [hbt, rv_bit, decide_eq_true hlt, Bool.true_and, show n - 1 - j = f from by omega]⟩
      clear hbt
      go_wp2_with (at_builtin; refine wpList_append_sl rfl (.tmp 13) (.tmp 19) 37 rfl 4 i0 (.bool false) 1 1 Try.underlying37 hi0 hz0 hz1 hz2 rfl (by decide) (.slice A j d) j _ rfl (by exact HO.out.alloc _) (some ⟨wr.heap.size, 0, none⟩) 1 1 [.bool bt] (some wr.heap.size) rfl rfl (by exact sl_of_blk (blk_new _ _)) (by intro h; cases h) (by intro u hu; simp at hu; subst hu; rfl) (by unfold maxLen; omega) (by omega) ?_; intro A3 d3 w6 hown' hgrow haft; have O3 := Hd.mk hown'; have G3 := Hd.mk hgrow; have F3 := Hd.mk haft; clear hown' hgrow haft)
      go_roundg f
      case measure => omega
      case rel =>
        refine ⟨j + 1, A3, d3, rfl, by go_num, by omega, ⟨?_⟩, ⟨fun y hy => ?_⟩, ⟨(HF.out.alloc _).grown G3.out (fun y hy => .inr (HB.out y hy))⟩⟩
        · have h := O3.out
          rw [Bits.bools_snoc (Nat.mod_lt _ (Nat.pow_pos (by omega))), Hbt.out, ← Bits.low_bit] at h
          exact h
        · rcases F3.out with e | ⟨z, e, hz⟩
          · rw [e] at hy; exact HB.out y hy
          · rw [e] at hy; cases hy
            have := HF.out.size
            rw [World.size_alloc] at hz
            omega
    · obtain rfl : j = n := by omega
      obtain rfl : gk = 0 := by omega
      have e0 : (((0 : Nat) : Int) - 1) = -1 := by omega
      rw [e0]
      clear e0
      go_wp2
      go_ret
      have h := HO.out
      rw [Nat.mod_eq_of_lt (rv_lt c j)] at h
      exact ⟨A, d, rfl, h, HB.out, HF.out⟩
set_option maxHeartbeats 8000000 in
theorem bits_ref (w : World) (A : Option Addr) (n c : Nat) (lens : List Int) (q : Option Nat) (hS : SlArg w A n c (i64s lens) q) (hc : check lens = 0) (s : Int) (m cd : Nat) (hm : m = bitsOf lens s) (hcd : cd = codeOf lens s) :
    Calls Try.prog 15 #[.slice A n c, .int .i64 s] w fun e w' => ∃ A' d, e = .returned (.slice A' m d) ∧ w'.ownsRow 0 4 1 (.slice A' m d) m (Bits.bools (rv cd m) m) ∧ (∀ y, (Value.slice A' m d).ownBlock = some y → w.heap.size ≤ y) ∧ Fr w w' [] := by
  have HS := Hd.mk hS
  have HC := Hd.mk hc
  have HM := Hd.mk hm
  have HCD := Hd.mk hcd
  have hl : lens.length = n := by have := hS.len; simpa [i64s] using this
  have hln : (codes lens).length = n := by rw [codes_len hc, hl]
  clear hS hc hm hcd
  go_enter Try.func15, Try.ntmps15
  go_wp2_with (fail)
  refine (rcodes_any w A n c lens q HS.out 0 (codes lens) HC.out.symm rfl).mono ?_
  rintro e w1 ⟨A1, d1, rfl, h1, h2, h3⟩
  rw [hln] at h1 ⊢
  have O1 := Hd.mk h1
  have F1 := Hd.mk h3
  clear h1 h2 h3
  by_cases h0 : s < 0
  · obtain rfl : m = 0 := by rw [HM.out]; unfold bitsOf; rw [if_neg (by omega)]
    go_wp2
    go_ret
    exact ⟨none, 0, rfl, by simpa [Bits.bools] using own_nil w1 0 4 1, (by intro y hy; cases hy), F1.out⟩
  · by_cases h1 : s ≥ (n : Nat)
    · obtain rfl : m = 0 := by rw [HM.out]; unfold bitsOf; rw [if_neg (by omega)]
      go_wp2
      go_ret
      exact ⟨none, 0, rfl, by simpa [Bits.bools] using own_nil w1 0 4 1, (by intro y hy; cases hy), F1.out⟩
    · obtain ⟨i, rfl⟩ := Int.eq_ofNat_of_zero_le (show 0 ≤ s by omega)
      have hi : i < lens.length := by omega
      have hall := (bad_false (check_zero HC.out).1).2 lens[i] (List.getElem_mem hi)
      have hm2 : lens[i] = (m : Int) := by
        rw [HM.out]
        unfold bitsOf
        rw [if_pos (by omega), List.getD_eq_getElem?_getD, Int.toNat_natCast, List.getElem?_eq_getElem hi]
        simp only [Option.getD_some]
        omega
      have hcd2 : (codes lens)[i]? = some cd := by
        rw [HCD.out]
        unfold codeOf
        rw [Int.toNat_natCast, List.getD_eq_getElem?_getD, List.getElem?_eq_getElem (by omega)]
        rfl
      have hm15 : m ≤ 15 := by omega
      have hcdb : cd < 32768 := by
        by_cases hm0 : 0 < m
        · obtain ⟨c2, a1, a2, a3, a4⟩ := code_fits HC.out hi hm2 hm0
          rw [hcd2] at a1
          cases a1
          exact Nat.lt_of_lt_of_le a3 (Nat.pow_le_pow_right (by omega) hm15)
        · have h2 := codesF_zero lens (firstF (cz lens)) i hi (by rw [hm2]; omega)
          unfold codes at hcd2
          rw [if_pos HC.out, h2] at hcd2
          cases hcd2
          omega
      obtain ⟨bd, off, rfl, hq, hcc⟩ := (HS.out.sl.frame F1.out (by simp)) (by rw [i64s_length]; omega)
      have kd := (hcc i (by rw [i64s_length]; omega)).trans (i64s_get lens i)
      rw [List.getElem?_eq_getElem hi, hm2] at kd
      simp only [Option.map_some] at kd
      obtain ⟨gl, dl, e1, hdl⟩ := own_some O1.out (by omega)
      injection e1 with e1 _ e2
      subst e1 e2
      have kc := (O1.out.cellAt i (by omega)).trans (show (nv (codes lens))[i]? = some (.int .i64 (cd : Nat)) from by
        unfold nv
        rw [i64s_get, List.getElem?_map, hcd2]
        rfl)
      have hiI : (i : Int) < (n : Nat) := by omega
      clear hall hm2 hcd2 hcc hi hq
      go_upto_region 4 with (fail)
      go_region_with (first
        | (go_at_call 40; refine (row_any _ cd m hcdb hm15).mono ?_; rintro e w2 ⟨A2, d2, rfl, h1, h2, h3⟩; have O2 := Hd.mk h1; have B2 := Hd.mk h2; have F2 := Hd.mk h3; clear h1 h2 h3))
      all_goals
        go_wp2
        go_ret
        exact ⟨A2, d2, rfl, O2.out, fun y hy => Nat.le_trans F1.out.size (B2.out y hy), F1.out.trans F2.out.ofDrew (by simp)⟩
end Go.Proofs.Ytncjckhcellehaa.Code
