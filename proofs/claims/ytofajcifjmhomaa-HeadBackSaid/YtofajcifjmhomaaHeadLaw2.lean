/- HeadLens' walk. Conditions: none but what memory bounds. -/
import Derived.Test.YtofajcifjmhomaaHeadLens2
set_option linter.unusedVariables false
set_option linter.unusedSimpArgs false
set_option maxRecDepth 100000
namespace Go.Proofs.Ytofajcifjmhomaa.Head
open Go.RowKit Go.Proofs.Ytofajcifjmhomaa.Lib Go.Proofs.Ytofajcifjmhomaa.Ints Go.Proofs.Ytofajcifjmhomaa.Runs

theorem lensF_len : ∀ (rs : List (Int × Int)) (out o : List Int), out.length ≤ 320 → lensF rs out = some o → o.length ≤ 320
  | [], out, o, h, e => by cases e; exact h
  | r :: t, out, o, h, e => by
    rw [lensF_cons] at e
    split at e
    · rename_i hok
      refine lensF_len t _ o ?_ e
      have h6 := hok.2.2.2.2.2
      have h7 := hok.2.2.1
      have := leastN_pos r.1
      simp only [List.length_append, List.length_replicate]
      omega
    · cases e
theorem lensF_getD (rs : List (Int × Int)) : ((lensF rs []).getD []).length ≤ 320 := by
  cases h : lensF rs [] with
  | none => simp
  | some o => exact lensF_len rs [] o (by simp) h
theorem ints_of_own {w : World} {base : Nat} {e : TypeId} {v : Value} {n : Nat} {xs : List Int} (h : w.ownsRow base e 1 v n (i64s xs)) : xs.length = n := by
  have := h.1
  simpa [i64s] using this
theorem owns_take {w : World} {A : Option Addr} {e d : Nat} {rs zs : List (Int × Int)} (h : w.ownsRow 0 e 2 (.slice A (rs.length + 2) d) (rs.length + 2) (cells (rs ++ zs))) : Sl w A (cells rs) (Value.slice A (rs.length + 2) d).ownBlock := by
  have := (sl_of_owns h).take (2 * rs.length)
  rwa [cells_app, List.take_left' (cells_len _)] at this
set_option maxHeartbeats 8000000 in
theorem lens_law (A : Option Addr) (n c : Nat) (rs : List (Int × Int)) (p : Option Nat) (W : World)
    (hn : rs.length = n) (hnc : n ≤ c) (hA : A = none → n = 0 ∧ c = 0) (hS : Sl W A (cells rs) p) (hy1 : n * 16 ≤ 140737488351232) :
    Calls Try.prog 4 #[.slice A n c] W fun e w' => e = .returned (.bool true) ∧ Below W.heap.size W w' := by
  obtain ⟨i0, hi0, hz0, hz1, hz2⟩ := info_parts infoRunA
  obtain ⟨k0, hk0, hy0, hy2, hy3⟩ := info_parts infoRun
  obtain ⟨j0, hj0, hj1, hj2, hj3⟩ := info_parts infoI64
  subst hn
  have HS := Hd.mk hS
  have HA := Hd.mk hA
  clear hS hA
  obtain ⟨ec, hec⟩ : ∃ ec : Int, ec = if (lensF rs []).isSome then 0 else 81 := ⟨_, rfl⟩
  obtain ⟨ls, hls⟩ : ∃ ls : List Int, ls = (lensF rs []).getD [] := ⟨_, rfl⟩
  have hlen : ls.length ≤ 320 := by rw [hls]; exact lensF_getD rs
  have HE := Hd.mk hec
  have HL := Hd.mk hls
  clear hec hls
  go_enter Try.func4, Try.ntmps4
  go_wp2
  go_loopg [3, 4] rs.length (fun kq sv jv wr => ∃ (j : Nat) (A1 : Option Addr) (m1 d1 : Nat), sv = .slice A1 m1 d1 ∧ jv = .int .i64 (j : Nat) ∧ j + kq = rs.length ∧ m1 ≤ rs.length ∧ Hd (m1 = j) ∧ Hd (wr.ownsRow 0 38 2 (.slice A1 m1 d1) m1 (cells (rs.take j))) ∧ Hd (∀ y, (Value.slice A1 m1 d1).ownBlock = some y → W.heap.size ≤ y) ∧ Hd (Fr W wr []))
  case atStart => exact ⟨0, none, 0, 0, rfl, rfl, by omega, by omega, ⟨rfl⟩, ⟨own_nil _ _ _ _⟩, ⟨by intro y hy; cases hy⟩, ⟨Fr.refl _ _⟩⟩
  case round =>
    obtain ⟨j, A1, m1, d1, rfl, rfl, hj, hm1, HM, HO, HB, HF⟩ := hrel
    by_cases h1 : j < rs.length
    · obtain ⟨a, o1, rfl, _, ha⟩ := Sl.row (enc := enc) (sz := 2) (fun _ => rfl) (HS.out.frame HF.out (by simp)) h1 (by decide)
      obtain ⟨x, hx⟩ : ∃ x, x = rs[j] := ⟨_, rfl⟩
      rw [← hx] at ha
      have ca := ha 0 (by decide)
      have ca1 := ha 1 (by decide)
      obtain ⟨xa, xb⟩ := x
      simp only [enc, List.getElem?_cons_zero, List.getElem?_cons_succ, Nat.add_zero] at ca ca1
      have HX := Hd.mk hx
      have hm2 : m1 + 1 ≤ rs.length := by have := HM.out; omega
      clear ha hx
      go_wp2
      go_region_law (refine step_append_sl rfl (.tmp 20) (.tmp 32) 23 rfl 38 k0 (.agg #[.int .i64 0, .int .i64 0]) 2 16 Try.underlying23 hk0 hy0 hy2 hy3 rfl (by decide) (.slice A1 m1 d1) m1 (cells (rs.take j)) (by simp [Act.eval, Act.put]) (by exact HO.out.alloc _) (some ⟨wr.heap.size, 0, none⟩) 1 1 [.int .i64 xa, .int .i64 xb] (some wr.heap.size) (by simp [Act.eval, Act.put]) rfl (by exact sl_of_blk (blk_new _ _)) (by intro h; cases h) (by intro u hu; simp at hu; rcases hu with rfl | rfl <;> rfl) (by unfold maxLen; omega) (by omega) ?_; intro A3 d3 w3 hown' hgrow haft; have O3 := Hd.mk hown'; have G3 := Hd.mk hgrow; have F3 := Hd.mk haft; clear hown' hgrow haft)
      all_goals
        go_wp2
        go_roundg (gk - 1)
        case measure => omega
        case rel =>
          refine ⟨j + 1, A3, m1 + 1, d3, rfl, by go_num, by omega, hm2, ⟨by rw [HM.out]⟩, ⟨?_⟩, ⟨own_new HB.out (by exact HF.out.size) F3.out⟩, ⟨((HF.out.drew).alloc _).grown G3.out (fun y hy => .inr (HB.out y hy))⟩⟩
          rw [List.take_succ_eq_append_getElem h1, ← HX.out, cells_app]
          exact O3.out
    · obtain rfl : j = rs.length := by omega
      obtain rfl : m1 = rs.length := HM.out
      have HO1 : Hd (wr.ownsRow 0 38 2 (.slice A1 rs.length d1) rs.length (cells rs)) := ⟨by have := HO.out; rwa [List.take_length] at this⟩
      clear HO
      go_wp2_with (fail)
      refine (rlens_any wr A1 rs.length d1 rs _ rfl (sl_of_owns HO1.out) (by omega) ec ls HE.out HL.out).mono ?_
      rintro e w2 ⟨A2, m2, d2, rfl, h1, h2, h3⟩
      obtain rfl : m2 = ls.length := (ints_of_own h1).symm
      have O2 := Hd.mk h1
      have B2 := Hd.mk h2
      have O1 := Hd.mk (own_frame HO1.out h3 (by simp))
      have F2 := Hd.mk (HF.out.trans h3 (by simp))
      clear h1 h2 h3
      go_wp2_with (at_builtin; refine wpList_append_sl rfl (.const (.slice none 0 0)) (.tmp 39) 27 rfl 35 i0 (.agg #[.int .i64 0, .int .i64 0]) 2 16 Try.underlying27 hi0 hz0 hz1 hz2 rfl (by decide) (.slice none 0 0) 0 [] rfl ?c0 A rs.length c (cells rs) p rfl ?c4 ?c5 ?c6 ?c1 ?c2 ?c3 ?_)
      case c0 => exact own_nil _ _ _ _
      case c4 => rw [cells_len]; omega
      case c5 => exact HS.out.frame F2.out (by simp)
      case c6 => exact HA.out
      case c1 => exact cells_one rs
      case c2 => unfold maxLen; omega
      case c3 => omega
      intro A3 d3 w3 hown' hgrow haft
      have O3 := Hd.mk hown'
      have A3f := Hd.mk (fun y (hy : (Value.slice A3 rs.length d3).ownBlock = some y) => haft.none hy)
      have G3 : Hd (Fr w2 w3 []) := ⟨(Fr.refl w2 []).grown hgrow (fun y hy => by cases hy)⟩
      clear hown' hgrow haft
      go_wp2_with (at_builtin; refine wpList_append_sl rfl (.tmp 40) (.tmp 43) 27 rfl 35 i0 (.agg #[.int .i64 0, .int .i64 0]) 2 16 Try.underlying27 hi0 hz0 hz1 hz2 rfl (by decide) (.slice A3 rs.length d3) rs.length _ rfl (by exact O3.out.alloc _) (some ⟨w3.heap.size, 0, none⟩) 2 2 [.int .i64 71, .int .i64 0, .int .i64 72, .int .i64 0] (some w3.heap.size) rfl rfl (by exact sl_of_blk (blk_new _ _)) (by intro h; cases h) ?d1 ?d2 ?d3 ?_)
      case d1 => intro u hu; simp at hu; rcases hu with rfl | rfl | rfl | rfl <;> rfl
      case d2 => unfold maxLen; omega
      case d3 => omega
      intro A4 d4 w4 hown' hgrow haft
      have hfr : Fr w2 w4 [] := (G3.out.alloc _).grown hgrow (fun y hy => .inr (A3f.out y hy))
      have O4 : Hd (w4.ownsRow 0 35 2 (.slice A4 (rs.length + 2) d4) (rs.length + 2) (cells (rs ++ [(71, 0), (72, 0)]))) := ⟨by rw [cells_app]; exact hown'⟩
      have O1 := Hd.mk (own_frame O1.out hfr (by simp))
      have O2 := Hd.mk (own_frame O2.out hfr (by simp))
      have F4 := Hd.mk (F2.out.trans hfr (by simp))
      have hd4 : rs.length + 2 ≤ d4 := by obtain ⟨_, _, e, hh, _⟩ := own_slice hown'; cases e; exact hh
      clear hown' hgrow haft hfr O3 A3f G3 HB HF HO1
      go_wp2_with (fail)
      refine (lens_any w4 A4 rs.length d4 rs _ rfl (by exact owns_take O4.out) (by omega) ec ls HE.out HL.out).mono ?_
      rintro e w5 ⟨A5, m5, d5, rfl, h1, h2, h3⟩
      obtain rfl : m5 = ls.length := (ints_of_own h1).symm
      have O5 := Hd.mk h1
      have B5 := Hd.mk h2
      have O1 := Hd.mk (own_frame O1.out h3 (by simp))
      have N52 : Hd (∀ y, (Value.slice A5 ls.length d5).ownBlock = some y → (Value.slice A2 ls.length d2).ownBlock ≠ some y) := ⟨fun y hy hz => by have := own_lt O2.out hz; have := h2 y hy; omega⟩
      have N5W : Hd (∀ y, (Value.slice A5 ls.length d5).ownBlock = some y → W.heap.size ≤ y) := ⟨fun y hy => Nat.le_trans F4.out.size (h2 y hy)⟩
      have O2 := Hd.mk (own_frame O2.out h3 (by simp))
      have O4 := Hd.mk (own_frame O4.out h3 (by simp))
      have F5 := Hd.mk (F4.out.trans h3 (by simp))
      clear h1 h2 h3
      go_wp2_with (fail)
      refine (lens_any w5 A4 rs.length d4 rs _ rfl (by exact owns_take O4.out) (by omega) ec ls HE.out HL.out).mono ?_
      rintro e w6 ⟨A6, m6, d6, rfl, h1, h2, h3⟩
      obtain rfl : m6 = ls.length := (ints_of_own h1).symm
      have O6 := Hd.mk h1
      have N56 : Hd (∀ y, (Value.slice A5 ls.length d5).ownBlock = some y → (Value.slice A6 ls.length d6).ownBlock ≠ some y) := ⟨fun y hy hz => by have := own_lt O5.out hy; have := h2 y hz; omega⟩
      have O1 := Hd.mk (own_frame O1.out h3 (by simp))
      have O2 := Hd.mk (own_frame O2.out h3 (by simp))
      have O4 := Hd.mk (own_frame O4.out h3 (by simp))
      have O5 := Hd.mk (own_frame O5.out h3 (by simp))
      have F6 := Hd.mk (F5.out.trans h3 (by simp))
      clear h1 h2 h3
      have hee : (ec == ec) = true := by simp
      go_wp2_with (fail)
      refine (num_any w6 ec).mono ?_
      rintro e w7 ⟨rfl, rfl⟩
      go_wp2_with (fail)
      refine (num_any w6 ec).mono ?_
      rintro e w7 ⟨rfl, rfl⟩
      go_wp2_with (fail)
      refine (same_any w6 A5 A2 _ _ _ _ ls ls _ _ rfl rfl (sl_of_own O5.out) (sl_of_own O2.out) (by omega) (by omega)).mono ?_
      rintro e w7 ⟨rfl, g7⟩
      rw [decide_eq_true rfl]
      have G7 := Hd.mk g7
      clear g7
      go_wp2_with (fail)
      refine (same_any w7 A6 A2 _ _ _ _ ls ls _ _ rfl rfl (by exact (sl_of_own O6.out).frame G7.out (by simp)) (by exact (sl_of_own O2.out).frame G7.out (by simp)) (by omega) (by omega)).mono ?_
      rintro e w8 ⟨rfl, g8⟩
      rw [decide_eq_true rfl]
      have G8 := Hd.mk (G7.out.trans g8 (by simp))
      clear g8
      go_wp2_with (fail)
      refine (alike_any w8 A4 A1 _ _ _ _ rs rs _ _ rfl rfl (by exact owns_take (own_frame O4.out G8.out (by simp))) (by exact (sl_of_owns O1.out).frame G8.out (by simp)) (by omega) (by omega)).mono ?_
      rintro e w9 ⟨rfl, g9⟩
      rw [decide_eq_true rfl]
      have G9 := Hd.mk (G8.out.trans g9 (by simp))
      clear g9
      have P4 := own_frame O4.out G9.out (by simp)
      obtain ⟨g4, d4', e4, _⟩ := own_some P4 (by omega)
      injection e4 with e4 _ e4'
      subst e4 e4'
      have q0 := P4.cellAt (rs.length * 2) (by omega)
      have q1 := P4.cellAt ((rs.length + 1) * 2) (by omega)
      rw [cells_app, List.getElem?_append_right (by rw [cells_len]; omega), cells_len] at q0 q1
      rw [show rs.length * 2 - 2 * rs.length = 0 from by omega] at q0
      rw [show (rs.length + 1) * 2 - 2 * rs.length = 2 from by omega] at q1
      simp only [cells, enc, List.flatMap_cons, List.flatMap_nil, List.cons_append, List.nil_append, List.append_nil, List.getElem?_cons_zero, List.getElem?_cons_succ] at q0 q1
      have P2 := Hd.mk (own_frame O2.out G9.out (by simp))
      have P5 := Hd.mk (own_frame O5.out G9.out (by simp))
      have P6 := Hd.mk (own_frame O6.out G9.out (by simp))
      have F9 := Hd.mk ((F6.out.trans G9.out (by simp)).mono (G := (Value.slice A5 ls.length d5).ownBlock.toList) (by simp))
      clear P4 O1 O2 O4 O5 O6 G7 G8 G9 F6 F5 F4 F2 B5 B2
      go_wp2
      go_loopg [12] ls.length (fun kq iv wr => ∃ (i : Nat) (zs : List Value), iv = .int .i64 (i : Nat) ∧ i + kq = ls.length ∧ Hd (wr.ownsRow 0 3 1 (.slice A5 ls.length d5) ls.length zs) ∧ Hd (Fr w9 wr (Value.slice A5 ls.length d5).ownBlock.toList))
      case atStart => exact ⟨0, _, rfl, by omega, P5, ⟨Fr.refl _ _⟩⟩
      case round =>
        obtain ⟨i, zs, rfl, hi, HO, HF⟩ := hrel
        by_cases h1 : i < ls.length
        · obtain ⟨g3, d3', e3, hd3⟩ := own_some HO.out (by omega)
          injection e3 with e3 _ e4
          subst e3 e4
          have hl := HO.out.1
          have c0 := HO.out.cellAt i (by omega)
          obtain ⟨v0, hv0⟩ : ∃ v, zs[i]? = some v := ⟨_, List.getElem?_eq_getElem (by omega)⟩
          rw [hv0] at c0
          have z0 := HO.out.frozenAt i
          clear hl hv0
          go_wp2
          go_roundg (gk - 1)
          case measure => omega
          case rel => exact ⟨i + 1, _, by go_num, by omega, ⟨(HO.out.stored _ _).1⟩, ⟨HF.out.setCell _ (.inl (by simp [Value.ownBlock]))⟩⟩
        · clear P5
          go_wp2
          go_loopg [8, 13] 40 (fun kq sv iv wr => ∃ (i : Nat) (A7 : Option Addr) (m7 d7 : Nat) (zs : List Value), sv = .slice A7 m7 d7 ∧ iv = .int .i64 (i : Nat) ∧ i + kq = 40 ∧ m7 ≤ 400 ∧ Hd (m7 = ls.length + i) ∧ Hd (wr.ownsRow 0 3 1 (.slice A7 m7 d7) m7 zs) ∧ Hd (Aft w9 (Value.slice A5 ls.length d5).ownBlock (Value.slice A7 m7 d7).ownBlock) ∧ Hd (Fr w9 wr (Value.slice A5 ls.length d5).ownBlock.toList))
          case atStart => exact ⟨0, A5, ls.length, d5, zs, rfl, rfl, rfl, by omega, ⟨rfl⟩, HO, ⟨Aft.refl _ _⟩, HF⟩
          case round =>
            clear HO HF
            obtain ⟨i, A7, m7, d7, zs, rfl, rfl, hi, hm7, HM7, HO, HA7, HF⟩ := hrel
            by_cases h2 : i < 40
            · have hm8 : m7 + 1 ≤ 400 := by have := HM7.out; omega
              go_wp2_with (at_builtin; refine wpList_append_sl rfl (.tmp 124) (.tmp 125) 22 rfl 3 j0 (.int .i64 0) 1 8 Try.underlying22 hj0 hj1 hj2 hj3 rfl (by decide) (.slice A7 m7 d7) m7 _ rfl (by exact HO.out.alloc _) (some ⟨wr.heap.size, 0, none⟩) 1 1 [.int .i64 82] (some wr.heap.size) rfl rfl (by exact sl_of_blk (blk_new _ _)) (by intro h; cases h) (by intro u hu; simp at hu; rcases hu with rfl; rfl) (by unfold maxLen; omega) (by omega) ?_; intro A8 d8 w8' hown' hgrow haft; have O8 := Hd.mk hown'; have G8 := Hd.mk hgrow; have F8 := Hd.mk haft; clear hown' hgrow haft)
              go_roundg (gk - 1)
              case measure => omega
              case rel =>
                exact ⟨i + 1, A8, m7 + 1, d8, _, rfl, by go_num, by omega, hm8, ⟨by have := HM7.out; omega⟩, O8, ⟨HA7.out.trans (aft_alloc F8.out) HF.out.size⟩, ⟨(HF.out.alloc _).grown G8.out (fun y hy => HA7.out.mem (k := y) (by simp [hy]))⟩⟩
            · go_wp2_with (fail)
              refine (same_any wr A6 A2 _ _ _ _ ls ls _ _ rfl rfl (by exact (sl_of_own P6.out).frame HF.out (fun y hy hz => N56.out y (by simpa using hz) hy)) (by exact (sl_of_own P2.out).frame HF.out (fun y hy hz => N52.out y (by simpa using hz) hy)) (by omega) (by omega)).mono ?_
              rintro e w10 ⟨rfl, g10⟩
              rw [decide_eq_true rfl]
              have F10 := Hd.mk ((F9.out.trans HF.out (F := (Value.slice A5 ls.length d5).ownBlock.toList) (fun y hy hz => hz)).trans g10 (by simp))
              clear g10
              go_wp2_with (fail)
              refine (awake_any w10).mono ?_
              rintro e w11 ⟨rfl, g11⟩
              have F11 := Hd.mk (F10.out.trans g11 (by simp))
              clear g11
              go_wp2
              go_ret
              refine ⟨rfl, (F11.out.mono (G := []) (fun y hy hz => ?_)).below⟩
              have := N5W.out y (by simpa using hz)
              omega
end Go.Proofs.Ytofajcifjmhomaa.Head
