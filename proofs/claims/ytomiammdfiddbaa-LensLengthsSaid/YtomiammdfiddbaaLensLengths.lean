/- LensLengths' walk. Conditions: none but what memory bounds. -/
import Derived.Test.YtomiammdfiddbaaLensR4
import Derived.Test.YtomiammdfiddbaaLensF
import Derived.Test.YtomiammdfiddbaaLensCosts
set_option linter.unusedVariables false
set_option linter.unusedSimpArgs false
set_option maxRecDepth 100000
namespace Go.Proofs.Ytomiammdfiddbaa.Lens
open Go.RowKit Go.Proofs.Ytomiammdfiddbaa.Lib Go.Proofs.Ytomiammdfiddbaa.Ints

theorem lens_len (limit : Int) (fs : List Int) : (lensN limit fs).1.length ≤ 288 := by
  unfold lensN
  split
  · exact Nat.zero_le _
  · split
    · exact Nat.zero_le _
    · split
      · exact Nat.zero_le _
      · rename_i h _
        have := (cn_zero (fs := fs) (by omega)).1
        simpa using this
theorem ints_size (rs : List Int) (n : Nat) (h : (i64s rs).length = n * 1) : rs.length = n := by rw [i64s_length] at h; omega
set_option maxHeartbeats 8000000 in
theorem lengths_law (limit : Int) (A : Option Addr) (n c : Nat) (xs : List Int) (p : Option Nat) (W : World)
    (hw0 : (Lit.int .i64 limit).wf = true) (hS : SlArg W A n c (i64s xs) p) (hw1 : ∀ x ∈ xs, (Lit.int .i64 x).wf = true) (hy1 : n * 8 ≤ 140737488351232) :
    Calls Try.prog 5 #[.int .i64 limit, .slice A n c] W fun e w' => e = .returned (.bool true) ∧ Below W.heap.size W w' := by
  obtain ⟨i0, hi0, hz0, hz1, hz2⟩ := info_parts infoI64
  have HS := Hd.mk hS
  have hln : xs.length = n := by have := hS.len; simpa [i64s] using this
  have HN := Hd.mk hln
  clear hS hw0 hw1 hln
  obtain ⟨ec, hec⟩ : ∃ ec : Int, ec = (lensN limit xs).2 := ⟨_, rfl⟩
  obtain ⟨rs, hrs⟩ : ∃ rs : List Int, rs = (lensN limit xs).1 := ⟨_, rfl⟩
  have hm : rs.length ≤ 288 := by rw [hrs]; exact lens_len _ _
  have HE : Hd (lensN limit xs = (rs, ec)) := ⟨by rw [hec, hrs]⟩
  clear hec hrs
  go_enter Try.func5, Try.ntmps5
  go_wp2_with (fail)
  refine (rlengths_any W limit A n c xs p HN.out HS.out.sl (by omega)).mono ?_
  rintro e w1 ⟨A1, m1, d1, rfl, h1, h2, h3⟩
  rw [HE.out] at h1 ⊢
  have O1 := Hd.mk h1
  have F1 := Hd.mk h3
  clear h1 h2 h3
  go_wp2_with (fail)
  refine (lend_any w1 A n c xs p (HS.out.frame F1.out (by simp)) (by omega)).mono ?_
  rintro e w2 ⟨g, e1, rfl, h1, h2, h3⟩
  have O2 := Hd.mk h1
  have O1' := Hd.mk (own_frame O1.out h3 (by simp))
  have F2 := Hd.mk (F1.out.trans h3 (by simp))
  have hd1 : n + 4 ≤ e1 := by obtain ⟨_, _, e, hh, _⟩ := own_slice h1; cases e; exact hh
  clear h1 h2 h3 O1 F1
  go_wp2_with (fail)
  refine (lengths_any w2 limit (some ⟨g, 0, none⟩) n e1 xs (some g) HN.out (by exact own_take O2.out HN.out) (by omega)).mono ?_
  rintro e w3 ⟨A3, m3, d3, rfl, h1, h2, h3⟩
  rw [HE.out] at h1 ⊢
  have O3 := Hd.mk h1
  have B3 := Hd.mk h2
  have O1 := Hd.mk (own_frame O1'.out h3 (by simp))
  have N31 : Hd (∀ y, (Value.slice A3 m3 d3).ownBlock = some y → (Value.slice A1 m1 d1).ownBlock ≠ some y) := ⟨fun y hy hz => by have := own_lt O1'.out hz; have := B3.out y hy; omega⟩
  have N32 : Hd (∀ y, (Value.slice A3 m3 d3).ownBlock = some y → y ≠ g) := ⟨fun y hy hz => by have := own_lt O2.out (k := g) rfl; have := B3.out y hy; omega⟩
  have N3W : Hd (∀ y, (Value.slice A3 m3 d3).ownBlock = some y → W.heap.size ≤ y) := ⟨fun y hy => Nat.le_trans F2.out.size (B3.out y hy)⟩
  have O2' := Hd.mk (own_frame O2.out h3 (by simp))
  have F3 := Hd.mk (F2.out.trans h3 (by simp))
  have L3 := Hd.mk h3.size
  clear h1 h2 h3 O1' O2
  go_wp2_with (fail)
  refine (lengths_any w3 limit (some ⟨g, 0, none⟩) n e1 xs (some g) HN.out (by exact own_take O2'.out HN.out) (by omega)).mono ?_
  rintro e w4 ⟨A4, m4, d4, rfl, h1, h2, h3⟩
  rw [HE.out] at h1 ⊢
  have O4 := Hd.mk h1
  have B4 := Hd.mk h2
  have O1 := Hd.mk (own_frame O1.out h3 (by simp))
  have O2 := Hd.mk (own_frame O2'.out h3 (by simp))
  have O3' := Hd.mk (own_frame O3.out h3 (by simp))
  have N34 : Hd (∀ y, (Value.slice A3 m3 d3).ownBlock = some y → (Value.slice A4 m4 d4).ownBlock ≠ some y) := ⟨fun y hy hz => by have := own_lt O3.out hy; have := B4.out y hz; omega⟩
  have F4 := Hd.mk (F3.out.trans h3 (by simp))
  clear h1 h2 h3 O2'
  obtain rfl : m1 = rs.length := (ints_size _ _ O1.out.1).symm
  obtain rfl : m3 = rs.length := (ints_size _ _ O3.out.1).symm
  obtain rfl : m4 = rs.length := (ints_size _ _ O4.out.1).symm
  have hee : (ec != ec) = false := by simp
  have hee2 : (ec == ec) = true := by simp
  go_wp2_with (fail)
  refine (num_any w4 ec).mono ?_
  rintro e w5 ⟨rfl, rfl⟩
  go_wp2_with (fail)
  refine (num_any w4 ec).mono ?_
  rintro e w5 ⟨rfl, rfl⟩
  go_wp2_with (fail)
  refine (same_any w4 A3 A1 _ _ _ _ rs rs _ _ rfl rfl (sl_of_own O3'.out) (sl_of_own O1.out) (by omega) (by omega)).mono ?_
  rintro e w5 ⟨rfl, g5⟩
  rw [decide_eq_true rfl]
  have G5 := Hd.mk g5
  clear g5
  go_wp2_with (fail)
  refine (same_any w5 A4 A1 _ _ _ _ rs rs _ _ rfl rfl (by exact sl_of_own (own_frame O4.out G5.out (by simp))) (by exact sl_of_own (own_frame O1.out G5.out (by simp))) (by omega) (by omega)).mono ?_
  rintro e w6 ⟨rfl, g6⟩
  rw [decide_eq_true rfl]
  have G6 := Hd.mk (G5.out.trans g6 (by simp))
  clear g6
  go_wp2_with (fail)
  refine (lend_any w6 A n c xs p (HS.out.frame (F4.out.trans G6.out (by simp)) (by simp)) (by omega)).mono ?_
  rintro e w7 ⟨g7, e7, rfl, h1, h2, h3⟩
  have O7 := Hd.mk h1
  have G7 := Hd.mk (G6.out.trans h3 (by simp))
  clear h1 h2 h3
  go_wp2_with (fail)
  refine (same_any w7 _ _ (n + 4) (n + 4) e1 e7 (xs ++ tail4) (xs ++ tail4) _ _ (by rw [List.length_append, HN.out]; rfl) (by rw [List.length_append, HN.out]; rfl) (by exact sl_of_own (own_frame O2.out G7.out (by simp))) (sl_of_own O7.out) (by omega) (by omega)).mono ?_
  rintro e w8 ⟨rfl, h8⟩
  rw [decide_eq_true rfl]
  have G8 := Hd.mk (G7.out.trans h8 (by simp))
  clear h8
  go_wp2
  have P1 := Hd.mk (own_frame O1.out G8.out (by simp))
  have P2 := Hd.mk (own_frame O2.out G8.out (by simp))
  have P3 := Hd.mk (own_frame O3'.out G8.out (by simp))
  have P4 := Hd.mk (own_frame O4.out G8.out (by simp))
  have F8 := Hd.mk ((F4.out.trans G8.out (by simp)).mono (G := (Value.slice A3 rs.length d3).ownBlock.toList) (by simp))
  have HMM := Hd.mk hm
  clear O1 O3' O4 F4 G8 G7 O7 G6 G5 O2 B4 B3 L3 O3 F3 F2
  go_loopg [13] rs.length (fun kq iv wr => ∃ (i : Nat) (zs : List Value), iv = .int .i64 (i : Nat) ∧ i + kq = rs.length ∧ Hd (wr.ownsRow 0 3 1 (.slice A3 rs.length d3) rs.length zs) ∧ Hd (Fr w8 wr (Value.slice A3 rs.length d3).ownBlock.toList))
  case atStart => exact ⟨0, _, rfl, by omega, P3, ⟨Fr.refl _ _⟩⟩
  case round =>
    obtain ⟨i, zs, rfl, hi, HO, HF⟩ := hrel
    by_cases h1 : i < rs.length
    · obtain ⟨g3, d3', e3, hd3⟩ := own_some HO.out (by omega)
      injection e3 with e3 _ e4
      subst e3 e4
      have hl := HO.out.1
      have c0 := HO.out.cellAt i (by omega)
      obtain ⟨v0, hv0⟩ : ∃ v, zs[i]? = some v := ⟨_, List.getElem?_eq_getElem (by omega)⟩
      rw [hv0] at c0
      have z0 := HO.out.frozenAt i
      clear hl hv0
      go_wp2
      go_roundg (gk - 1)
      case measure => go_light; omega
      case rel => go_light; exact ⟨i + 1, _, by go_num, by omega, ⟨(HO.out.stored _ _).1⟩, ⟨HF.out.setCell _ (.inl (by simp [Value.ownBlock]))⟩⟩
    · clear P3
      go_wp2
      go_loopg [9, 14] 40 (fun kq sv iv wr => ∃ (i : Nat) (A5 : Option Addr) (m5 d5 : Nat) (zs : List Value), sv = .slice A5 m5 d5 ∧ iv = .int .i64 (i : Nat) ∧ i + kq = 40 ∧ m5 = rs.length + i ∧ Hd (wr.ownsRow 0 3 1 (.slice A5 m5 d5) m5 zs) ∧ Hd (Aft w8 (Value.slice A3 rs.length d3).ownBlock (Value.slice A5 m5 d5).ownBlock) ∧ Hd (Fr w8 wr (Value.slice A3 rs.length d3).ownBlock.toList))
      case atStart => exact ⟨0, A3, rs.length, d3, zs, rfl, rfl, rfl, rfl, HO, ⟨Aft.refl _ _⟩, HF⟩
      case round =>
        clear HO HF
        obtain ⟨i, A5, m5, d5, zs, rfl, rfl, hi, hm5, HO, HA, HF⟩ := hrel
        by_cases h2 : i < 40
        · go_wp2_with (at_builtin; refine wpList_append_sl rfl (.tmp 83) (.tmp 84) 22 rfl 3 i0 (.int .i64 0) 1 8 Try.underlying22 hi0 hz0 hz1 hz2 rfl (by decide) (.slice A5 m5 d5) m5 _ rfl (by exact HO.out.alloc _) (some ⟨wr.heap.size, 0, none⟩) 1 1 [.int .i64 82] (some wr.heap.size) rfl rfl (by exact sl_of_blk (blk_new _ _)) (by intro h; cases h) (by intro u hu; simp at hu; subst hu; rfl) (by unfold maxLen; omega) (by omega) ?_; intro A6 d6 w6' hown' hgrow haft; have O6 := Hd.mk hown'; have G6 := Hd.mk hgrow; have F6 := Hd.mk haft; clear hown' hgrow haft)
          go_roundg (gk - 1)
          case measure => go_light; omega
          case rel =>
            go_light
            refine ⟨i + 1, A6, m5 + 1, d6, _, by subst hm5; rfl, by go_num, by omega, by omega, O6, ⟨?_⟩, ⟨(HF.out.alloc _).grown G6.out (fun y hy => ?_)⟩⟩
            · refine HA.out.trans (w1 := wr) ?_ HF.out.size
              rcases F6.out with h | ⟨z, h, hz⟩
              · exact .inl h
              · exact .inr ⟨z, h, by simp at hz; omega⟩
            · have := HA.out.mem (k := y) (by simp [hy])
              exact this
        · have g4 : Hd (w8.heap.size ≤ wr.heap.size) := ⟨HF.out.size⟩
          have Q1 := Hd.mk (own_frame P1.out HF.out (fun y hy hz => N31.out y (by simpa using hz) hy))
          have Q4 := Hd.mk (own_frame P4.out HF.out (fun y hy hz => N34.out y (by simpa using hz) hy))
          have Q2 := Hd.mk (own_frame P2.out HF.out (fun y hy hz => N32.out y (by simpa using hz) (by simp [Value.ownBlock] at hy; exact hy.symm)))
          have F8b := Hd.mk (F8.out.trans HF.out (F := (Value.slice A3 rs.length d3).ownBlock.toList) (fun y hy hz => hz))
          clear HO HA HF P1 P2 P4
          go_wp2_with (fail)
          refine (same_any wr A4 A1 _ _ _ _ rs rs _ _ rfl rfl (by exact sl_of_own Q4.out) (by exact sl_of_own Q1.out) (by omega) (by omega)).mono ?_
          rintro e w9 ⟨rfl, g9⟩
          rw [decide_eq_true rfl]
          have R1 := Hd.mk (own_frame Q1.out g9 (by simp))
          have R2 := Hd.mk (own_frame Q2.out g9 (by simp))
          have F9 := Hd.mk (F8b.out.trans g9 (by simp))
          clear g9
          go_wp2_with (fail)
          refine (lengths_any w9 limit (some ⟨g, 0, none⟩) n e1 xs (some g) HN.out (by exact own_take R2.out HN.out) (by omega)).mono ?_
          rintro e w10 ⟨A10, m10, d10, rfl, h1, h2, h3⟩
          rw [HE.out] at h1 ⊢
          have O10 := Hd.mk h1
          have R1' := Hd.mk (own_frame R1.out h3 (by simp))
          have F10 := Hd.mk (F9.out.trans h3 (by simp))
          clear h1 h2 h3
          obtain rfl : m10 = rs.length := (ints_size _ _ O10.out.1).symm
          go_wp2_with (fail)
          refine (num_any w10 ec).mono ?_
          rintro e w' ⟨rfl, rfl⟩
          go_wp2_with (fail)
          refine (same_any w10 A10 A1 _ _ _ _ rs rs _ _ rfl rfl (by exact sl_of_own O10.out) (by exact sl_of_own R1'.out) (by omega) (by omega)).mono ?_
          rintro e w11 ⟨rfl, g11⟩
          rw [decide_eq_true rfl]
          have F11 := Hd.mk (F10.out.trans g11 (by simp))
          clear g11
          go_wp2_with (fail)
          refine (awake_any w11).mono ?_
          rintro e w12 ⟨rfl, g12⟩
          have F12 := Hd.mk (F11.out.trans g12 (by simp))
          clear g12
          go_wp2
          go_ret
          refine ⟨rfl, (F12.out.mono (G := []) (fun y hy hz => ?_)).below⟩
          have := N3W.out y (by simpa using hz)
          omega
end Go.Proofs.Ytomiammdfiddbaa.Lens
