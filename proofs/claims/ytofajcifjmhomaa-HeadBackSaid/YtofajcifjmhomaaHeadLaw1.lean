/- HeadRuns' walk. Conditions: none but what memory bounds. -/
import Derived.Test.YtofajcifjmhomaaHeadLaw
set_option linter.unusedVariables false
set_option linter.unusedSimpArgs false
set_option maxRecDepth 100000
namespace Go.Proofs.Ytofajcifjmhomaa.Head
open Go.RowKit Go.Proofs.Ytofajcifjmhomaa.Lib Go.Proofs.Ytofajcifjmhomaa.Ints Go.Proofs.Ytofajcifjmhomaa.Runs

theorem cells_size (rs : List (Int × Int)) (n : Nat) (h : (cells rs).length = n * 2) : rs.length = n := by rw [cells_len] at h; omega
theorem runs_len : ∀ (n : Nat) (l : List Int), l.length ≤ n → (runs l).length ≤ l.length
  | 0, l, h => by
    have : l = [] := List.eq_nil_of_length_eq_zero (by omega)
    subst this
    exact Nat.le_refl _
  | n + 1, [], h => Nat.le_refl _
  | n + 1, v :: t, h => by
    have h1 := rowLen_pos v (lead v t + 1)
    have h2 := row_len (k := lead v t + 1) v (by omega)
    have h3 := rowLen_le v (k := lead v t + 1) (by omega)
    have h4 := lead_le v t
    simp only [List.length_cons] at h
    have h5 := runs_len n ((v :: t).drop (rowLen v (lead v t + 1))) (by simp only [List.length_drop, List.length_cons]; omega)
    rw [runs_cons, List.length_append]
    simp only [List.length_drop, List.length_cons] at h5 ⊢
    omega
theorem list_len (xs : List Int) : (if bad xs then [] else runs xs).length ≤ 320 := by
  split
  · exact Nat.zero_le _
  · rename_i h
    have := runs_len xs.length xs (Nat.le_refl _)
    unfold bad at h
    simp at h
    omega
set_option maxHeartbeats 8000000 in
theorem runs_law (A : Option Addr) (n c : Nat) (xs : List Int) (p : Option Nat) (W : World)
    (hS : SlArg W A n c (i64s xs) p) (hw1 : ∀ x ∈ xs, (Lit.int .i64 x).wf = true) (hy1 : n * 8 ≤ 140737488351232) :
    Calls Try.prog 3 #[.slice A n c] W fun e w' => e = .returned (.bool true) ∧ Below W.heap.size W w' := by
  obtain ⟨i0, hi0, hz0, hz1, hz2⟩ := info_parts infoRunA
  have HS := Hd.mk hS
  have hln : xs.length = n := by have := hS.len; simpa [i64s] using this
  have HN := Hd.mk hln
  clear hS hw1 hln
  obtain ⟨ec, hec⟩ : ∃ ec : Int, ec = if bad xs then 80 else 0 := ⟨_, rfl⟩
  obtain ⟨rs, hrs⟩ : ∃ rs : List (Int × Int), rs = if bad xs then [] else runs xs := ⟨_, rfl⟩
  have HE := Hd.mk hec
  have HR := Hd.mk hrs
  clear hec hrs
  go_enter Try.func3, Try.ntmps3
  go_wp2_with (fail)
  refine (rruns_any W A n c xs p HN.out HS.out.sl (by omega) ec rs HE.out HR.out).mono ?_
  rintro e w1 ⟨A1, m1, d1, rfl, h1, h2, h3⟩
  have O1 := Hd.mk h1
  have F1 := Hd.mk h3
  clear h1 h2 h3
  go_wp2_with (fail)
  refine (lend_any w1 A n c xs p (HS.out.frame F1.out (by simp)) (by omega)).mono ?_
  rintro e w2 ⟨g, e1, rfl, h1, h2, h3⟩
  have O2 := Hd.mk h1
  have O1' := Hd.mk (own_frame O1.out h3 (by simp))
  have F2 := Hd.mk (F1.out.trans h3 (by simp))
  have hd1 : n + 4 ≤ e1 := by obtain ⟨_, _, e, hh, _⟩ := own_slice h1; cases e; exact hh
  clear h1 h2 h3 O1 F1
  go_wp2_with (fail)
  refine (runs_any w2 (some ⟨g, 0, none⟩) n e1 xs (some g) HN.out (by omega) (by exact own_take O2.out HN.out) (by intro h; cases h) (by omega) ec rs HE.out HR.out).mono ?_
  rintro e w3 ⟨A3, m3, d3, rfl, h1, h2, h3⟩
  have O3 := Hd.mk h1
  have B3 := Hd.mk h2
  have O1 := Hd.mk (own_frame O1'.out h3 (by simp))
  have N31 : Hd (∀ y, (Value.slice A3 m3 d3).ownBlock = some y → (Value.slice A1 m1 d1).ownBlock ≠ some y) := ⟨fun y hy hz => by have := own_lt O1'.out hz; have := B3.out y hy; omega⟩
  have N3W : Hd (∀ y, (Value.slice A3 m3 d3).ownBlock = some y → W.heap.size ≤ y) := ⟨fun y hy => Nat.le_trans F2.out.size (B3.out y hy)⟩
  have O2' := Hd.mk (own_frame O2.out h3 (by simp))
  have F3 := Hd.mk (F2.out.trans h3 (by simp))
  have L3 := Hd.mk h3.size
  clear h1 h2 h3 O1' O2 
  go_wp2_with (fail)
  refine (runs_any w3 (some ⟨g, 0, none⟩) n e1 xs (some g) HN.out (by omega) (by exact own_take O2'.out HN.out) (by intro h; cases h) (by omega) ec rs HE.out HR.out).mono ?_
  rintro e w4 ⟨A4, m4, d4, rfl, h1, h2, h3⟩
  have O4 := Hd.mk h1
  have B4 := Hd.mk h2
  have O1 := Hd.mk (own_frame O1.out h3 (by simp))
  have O2 := Hd.mk (own_frame O2'.out h3 (by simp))
  have O3' := Hd.mk (own_frame O3.out h3 (by simp))
  have N34 : Hd (∀ y, (Value.slice A3 m3 d3).ownBlock = some y → (Value.slice A4 m4 d4).ownBlock ≠ some y) := ⟨fun y hy hz => by have := own_lt O3.out hy; have := B4.out y hz; omega⟩
  have F4 := Hd.mk (F3.out.trans h3 (by simp))
  clear h1 h2 h3 O2'
  obtain rfl : m1 = rs.length := (cells_size _ _ O1.out.1).symm
  obtain rfl : m3 = rs.length := (cells_size _ _ O3.out.1).symm
  obtain rfl : m4 = rs.length := (cells_size _ _ O4.out.1).symm
  have hm : rs.length ≤ 320 := by rw [HR.out]; exact list_len xs
  have hee : (ec == ec) = true := by simp
  go_wp2_with (fail)
  refine (num_any w4 ec).mono ?_
  rintro e w5 ⟨rfl, rfl⟩
  go_wp2_with (fail)
  refine (num_any w4 ec).mono ?_
  rintro e w5 ⟨rfl, rfl⟩
  go_wp2_with (fail)
  refine (alike_any w4 A3 A1 _ _ _ _ rs rs _ _ rfl rfl (sl_of_owns O3'.out) (sl_of_owns O1.out) (by omega) (by omega)).mono ?_
  rintro e w5 ⟨rfl, g5⟩
  rw [decide_eq_true rfl]
  have G5 := Hd.mk g5
  clear g5
  go_wp2_with (fail)
  refine (alike_any w5 A4 A1 _ _ _ _ rs rs _ _ rfl rfl (by exact sl_of_owns (own_frame O4.out G5.out (by simp))) (by exact sl_of_owns (own_frame O1.out G5.out (by simp))) (by omega) (by omega)).mono ?_
  rintro e w6 ⟨rfl, g6⟩
  rw [decide_eq_true rfl]
  have G6 := Hd.mk (G5.out.trans g6 (by simp))
  clear g6
  go_wp2_with (fail)
  refine (lend_any w6 A n c xs p (HS.out.frame (F4.out.trans G6.out (by simp)) (by simp)) (by omega)).mono ?_
  rintro e w7 ⟨g7, e7, rfl, h1, h2, h3⟩
  have O7 := Hd.mk h1
  have G7 := Hd.mk (G6.out.trans h3 (by simp))
  clear h1 h2 h3
  go_wp2_with (fail)
  refine (same_any w7 _ _ (n + 4) (n + 4) e1 e7 (xs ++ tail4) (xs ++ tail4) _ _ (by rw [List.length_append, HN.out]; rfl) (by rw [List.length_append, HN.out]; rfl) (by exact sl_of_own (own_frame O2.out G7.out (by simp))) (sl_of_own O7.out) (by omega) (by omega)).mono ?_
  rintro e w8 ⟨rfl, h8⟩
  rw [decide_eq_true rfl]
  have G8 := Hd.mk (G7.out.trans h8 (by simp))
  clear h8
  go_wp2
  have P1 := Hd.mk (own_frame O1.out G8.out (by simp))
  have P3 := Hd.mk (own_frame O3'.out G8.out (by simp))
  have P4 := Hd.mk (own_frame O4.out G8.out (by simp))
  have F8 := Hd.mk ((F4.out.trans G8.out (by simp)).mono (G := (Value.slice A3 rs.length d3).ownBlock.toList) (by simp))
  have HMM := Hd.mk hm
  clear O1 O3' O4 F4 G8 G7 O7 G6 G5 O2 B4 B3 L3 O3 F3 F2
  go_loopg [10] rs.length (fun kq iv wr => ∃ (i : Nat) (zs : List Value), iv = .int .i64 (i : Nat) ∧ i + kq = rs.length ∧ Hd (wr.ownsRow 0 35 2 (.slice A3 rs.length d3) rs.length zs) ∧ Hd (Fr w8 wr (Value.slice A3 rs.length d3).ownBlock.toList))
  case atStart => exact ⟨0, _, rfl, by omega, P3, ⟨Fr.refl _ _⟩⟩
  case round =>
    obtain ⟨i, zs, rfl, hi, HO, HF⟩ := hrel
    by_cases h1 : i < rs.length
    · obtain ⟨g3, d3', e3, hd3⟩ := own_some HO.out (by omega)
      injection e3 with e3 _ e4
      subst e3 e4
      have hl := HO.out.1
      have c0 := HO.out.cellAt (i * 2) (by omega)
      have c1 := HO.out.cellAt (i * 2 + 1) (by omega)
      obtain ⟨v0, hv0⟩ : ∃ v, zs[i * 2]? = some v := ⟨_, List.getElem?_eq_getElem (by omega)⟩
      obtain ⟨v1, hv1⟩ : ∃ v, zs[i * 2 + 1]? = some v := ⟨_, List.getElem?_eq_getElem (by omega)⟩
      rw [hv0] at c0
      rw [hv1] at c1
      have z0 := HO.out.frozenAt (i * 2)
      have z1 := HO.out.frozenAt (i * 2 + 1)
      clear hl hv0 hv1
      go_wp2
      go_roundg (gk - 1)
      case measure => omega
      case rel => exact ⟨i + 1, _, by go_num, by omega, ⟨((HO.out.stored _ _).1.stored _ _).1⟩, ⟨(HF.out.setCell _ (.inl (by simp [Value.ownBlock]))).setCell _ (.inl (by simp [Value.ownBlock]))⟩⟩
    · clear P3
      go_wp2
      go_loopg [6, 11] 40 (fun kq sv iv wr => ∃ (i : Nat) (A5 : Option Addr) (m5 d5 : Nat) (zs : List Value), sv = .slice A5 m5 d5 ∧ iv = .int .i64 (i : Nat) ∧ i + kq = 40 ∧ m5 = rs.length + i ∧ Hd (wr.ownsRow 0 35 2 (.slice A5 m5 d5) m5 zs) ∧ Hd (Aft w8 (Value.slice A3 rs.length d3).ownBlock (Value.slice A5 m5 d5).ownBlock) ∧ Hd (Fr w8 wr (Value.slice A3 rs.length d3).ownBlock.toList))
      case atStart => exact ⟨0, A3, rs.length, d3, zs, rfl, rfl, rfl, rfl, HO, ⟨Aft.refl _ _⟩, HF⟩
      case round =>
        clear HO HF
        obtain ⟨i, A5, m5, d5, zs, rfl, rfl, hi, hm5, HO, HA, HF⟩ := hrel
        by_cases h2 : i < 40
        · go_wp2_with (at_builtin; refine wpList_append_sl rfl (.tmp 78) (.tmp 80) 27 rfl 35 i0 (.agg #[.int .i64 0, .int .i64 0]) 2 16 Try.underlying27 hi0 hz0 hz1 hz2 rfl (by decide) (.slice A5 m5 d5) m5 _ rfl (by exact HO.out.alloc _) (some ⟨wr.heap.size, 0, none⟩) 1 1 [.int .i64 82, .int .i64 0] (some wr.heap.size) rfl rfl (by exact sl_of_blk (blk_new _ _)) (by intro h; cases h) (by intro u hu; simp at hu; rcases hu with rfl | rfl <;> rfl) (by unfold maxLen; omega) (by omega) ?_; intro A6 d6 w6' hown' hgrow haft; have O6 := Hd.mk hown'; have G6 := Hd.mk hgrow; have F6 := Hd.mk haft; clear hown' hgrow haft)
          go_roundg (gk - 1)
          case measure => omega
          case rel =>
            refine ⟨i + 1, A6, m5 + 1, d6, _, by subst hm5; rfl, by go_num, by omega, by omega, O6, ⟨?_⟩, ⟨(HF.out.alloc _).grown G6.out (fun y hy => ?_)⟩⟩
            · refine HA.out.trans (w1 := wr) ?_ HF.out.size
              rcases F6.out with h | ⟨z, h, hz⟩
              · exact .inl h
              · exact .inr ⟨z, h, by simp at hz; omega⟩
            · have := HA.out.mem (k := y) (by simp [hy])
              exact this
        · have g4 : Hd (w8.heap.size ≤ wr.heap.size) := ⟨HF.out.size⟩
          go_wp2_with (fail)
          refine (alike_any wr A4 A1 _ _ _ _ rs rs _ _ rfl rfl (by exact (sl_of_owns P4.out).frame HF.out (fun y hy hz => N34.out y (by simpa using hz) hy)) (by exact (sl_of_owns P1.out).frame HF.out (fun y hy hz => N31.out y (by simpa using hz) hy)) (by omega) (by omega)).mono ?_
          rintro e w9 ⟨rfl, g9⟩
          rw [decide_eq_true rfl]
          have F9 := Hd.mk ((F8.out.trans HF.out (F := (Value.slice A3 rs.length d3).ownBlock.toList) (fun y hy hz => hz)).trans g9 (by simp))
          clear g9
          go_wp2_with (fail)
          refine (awake_any w9).mono ?_
          rintro e w10 ⟨rfl, g10⟩
          have F10 := Hd.mk (F9.out.trans g10 (by simp))
          clear g10
          go_wp2
          go_ret
          refine ⟨rfl, (F10.out.mono (G := []) (fun y hy hz => ?_)).below⟩
          have := N3W.out y (by simpa using hz)
          omega
end Go.Proofs.Ytofajcifjmhomaa.Head
