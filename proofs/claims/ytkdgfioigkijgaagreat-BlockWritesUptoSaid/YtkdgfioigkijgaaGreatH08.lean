/- Texts of this claim, one behind the other: HeadRuns2, HeadLens, LensCost, SortA. -/
import Derived.Test.YtkdgfioigkijgaaGreatH01
import Derived.Test.YtkdgfioigkijgaaGreatH02
import Derived.Test.YtkdgfioigkijgaaGreatH03
import Derived.Test.YtkdgfioigkijgaaGreatH07
import Derived.Deep.CutBlock
/- The program's Runs. Conditions: none but what memory bounds. -/
set_option linter.unusedVariables false
set_option linter.unusedSimpArgs false
set_option maxRecDepth 100000
namespace Go.Proofs.YtkdgfioigkijgaaGreat.Head
open Go.RowKit Go.Proofs.YtkdgfioigkijgaaGreat.Lib Go.Proofs.YtkdgfioigkijgaaGreat.Ints Go.Proofs.YtkdgfioigkijgaaGreat.Runs

theorem infoRunA : (Tryz.prog.info? 297).map (fun i => (i.zero, i.size, i.bytes)) = some (some (.agg #[.int .i64 0, .int .i64 0]), 2, 16) := by kernel_rfl
theorem kf (a b c : Int) (w : World) : (Instr.field 311 (.agg #[.int .i64 a, .int .i64 b, .int .i64 c]) 1).run Tryz.prog w = .ok (.int .i64 b) w ∧ (Instr.field 311 (.agg #[.int .i64 a, .int .i64 b, .int .i64 c]) 2).run Tryz.prog w = .ok (.int .i64 c) w := ⟨by kernel_rfl, by kernel_rfl⟩
theorem own_new {wo w : World} {q q' : Option Nat} (hB : ∀ x, q = some x → wo.heap.size ≤ x) (hs : wo.heap.size ≤ w.heap.size) {o : Obj} (h : Aft (w.alloc o) q q') : ∀ y, q' = some y → wo.heap.size ≤ y := by
  intro y hy
  rcases h with e | ⟨z, e, hz⟩
  · rw [e] at hy; exact hB y hy
  · rw [e] at hy; cases hy; simp at hz; omega
set_option maxHeartbeats 8000000 in
theorem runs_any (w : World) (A : Option Addr) (n c : Nat) (xs : List Int) (p : Option Nat) (hn : xs.length = n) (hnc : n ≤ c) (hS : Sl w A (i64s xs) p) (hA : A = none → n = 0 ∧ c = 0) (hn1 : n ≤ 4611686018427387904) (ec : Int) (rs : List (Int × Int)) (hec : ec = if bad xs then 80 else 0) (hrs : rs = if bad xs then [] else runs xs) :
    Calls Tryz.prog 194 #[.slice A n c] w fun e w' => ∃ A' m d, e = .returned (.tuple #[.slice A' m d, .int .i64 ec]) ∧
      w'.ownsRow 0 297 2 (.slice A' m d) m (cells rs) ∧ (∀ j, (Value.slice A' m d).ownBlock = some j → w.heap.size ≤ j) ∧ Fr w w' [] := by
  obtain ⟨i0, hi0, hz0, hz1, hz2⟩ := info_parts infoRunA
  obtain ⟨j0, hj0, hj1, hj2, hj3⟩ := info_parts infoI64
  subst hn
  have HS := Hd.mk hS
  have HA0 := Hd.mk hA
  have HEC := Hd.mk hec
  have HRS := Hd.mk hrs
  clear hS hA hec hrs
  by_cases hbig : 320 < xs.length
  · have hc : Hd (bad xs = true) := ⟨by unfold bad; rw [decide_eq_true hbig]; rfl⟩
    go_enter Tryz.func194, Tryz.ntmps194
    go_wp2
    go_ret2
    exact ⟨none, 0, 0, by rw [HEC.out, hc.out]; rfl, by rw [HRS.out, hc.out]; exact own_nil _ _ _ _, (by intro j hj; cases hj), Fr.refl _ _⟩
  · go_enter Tryz.func194, Tryz.ntmps194
    go_wp2
    go_loopg [14] xs.length (fun kq jv wr => ∃ j : Nat, jv = .int .i64 (j : Nat) ∧ j + kq = xs.length ∧ wr = w ∧ Hd (∀ i, i < j → (h : i < xs.length) → 0 ≤ xs[i] ∧ xs[i] ≤ 15))
    case atStart => exact ⟨0, rfl, by omega, rfl, ⟨fun i h => absurd h (Nat.not_lt_zero _)⟩⟩
    case round =>
      obtain ⟨j, rfl, hj, rfl, HA⟩ := hrel
      by_cases h1 : j < xs.length
      · obtain ⟨a, o1, rfl, _, ha⟩ := HS.out (by simp [i64s]; omega)
        obtain ⟨x, hx⟩ : ∃ x, x = xs[j] := ⟨_, rfl⟩
        have ca := (ha j (by simp [i64s]; omega)).trans (by rw [i64s_get, List.getElem?_eq_getElem (by omega), ← hx])
        have HX := Hd.mk hx
        clear ha hx
        by_cases h2 : x < 0
        · have hc : Hd (bad xs = true) := ⟨by unfold bad; rw [out_true h1 (by rw [← HX.out]; exact .inl h2), Bool.or_true]⟩
          go_wp2
          go_ret2
          exact ⟨none, 0, 0, by rw [HEC.out, hc.out]; rfl, by rw [HRS.out, hc.out]; exact own_nil _ _ _ _, (by intro j hj; cases hj), Fr.refl _ _⟩
        · by_cases h3 : 15 < x
          · have hc : Hd (bad xs = true) := ⟨by unfold bad; rw [out_true h1 (by rw [← HX.out]; exact .inr h3), Bool.or_true]⟩
            go_wp2
            go_ret2
            exact ⟨none, 0, 0, by rw [HEC.out, hc.out]; rfl, by rw [HRS.out, hc.out]; exact own_nil _ _ _ _, (by intro j hj; cases hj), Fr.refl _ _⟩
          · go_wp2
            go_roundg (gk - 1)
            case measure => omega
            case rel => exact ⟨j + 1, by go_num, by omega, rfl, ⟨fun i hi h => by
              by_cases e : i = j
              · subst e; rw [← HX.out]; omega
              · exact HA.out i (by omega) h⟩⟩
      · have hc : Hd (bad xs = false) := ⟨by unfold bad; rw [out_false (fun i hi => HA.out i (by omega) hi), decide_eq_false hbig]; rfl⟩
        clear HA
        obtain ⟨wo, rfl⟩ : ∃ wo : World, wo = wr := ⟨_, rfl⟩
        go_wp2
        go_loopg [0, 6] xs.length (fun kq lv sv wr => ∃ (ys : List Int) (A1 : Option Addr) (c1 : Nat) (A' : Option Addr) (m d : Nat) (P : List (Int × Int)), lv = .slice A1 ys.length c1 ∧ sv = .slice A' m d ∧ ys.length = kq ∧ ys.length ≤ c1 ∧ m + ys.length ≤ xs.length ∧ Hd (Sl wo A1 (i64s ys) p) ∧ Hd (A1 = none → ys.length = 0 ∧ c1 = 0) ∧
          Hd (P ++ runs ys = runs xs) ∧ Hd (wr.ownsRow 0 297 2 (.slice A' m d) m (cells P)) ∧ Hd (∀ x, (Value.slice A' m d).ownBlock = some x → wo.heap.size ≤ x) ∧ Hd (Fr wo wr []))
        case atStart => exact ⟨xs, A, c, none, 0, 0, [], rfl, rfl, rfl, hnc, by omega, HS, HA0, ⟨rfl⟩, ⟨own_nil _ _ _ _⟩, ⟨by intro x hx; cases hx⟩, ⟨Fr.refl _ _⟩⟩
        case round =>
          obtain ⟨ws, rfl⟩ : ∃ ws : World, ws = wr := ⟨_, rfl⟩
          obtain ⟨gx, rfl⟩ : ∃ gx : Nat, gx = gk := ⟨_, rfl⟩
          obtain ⟨ys, A1, c1, A', m, d, P, rfl, rfl, hi, hyc, hmi, HY, HYA, HP, HO, HB, HF⟩ := hrel
          cases ys with
          | nil =>
            have hp := HP.out
            rw [runs_nil, List.append_nil] at hp
            have hrs2 : Hd (rs = P) := ⟨by rw [HRS.out, hc.out, hp]; rfl⟩
            have hec2 : Hd (ec = 0) := ⟨by rw [HEC.out, hc.out]; rfl⟩
            simp only [List.length_nil]
            go_wp2
            go_ret2
            rw [hrs2.out, hec2.out]
            exact ⟨A', m, d, rfl, HO.out, HB.out, HF.out⟩
          | cons x t =>
            obtain ⟨a, o1, rfl, _, ha⟩ := (HY.out.frame HF.out (by simp)) (by simp [i64s])
            have c0 := ha 0 (by simp [i64s])
            simp only [i64s, List.map_cons, List.getElem?_cons_zero, Nat.add_zero] at c0
            have HC := Hd.mk ha
            obtain ⟨ny, hny⟩ : ∃ ny, ny = (x :: t).length := ⟨_, rfl⟩
            have hny1 : 1 ≤ ny := by rw [hny]; simp
            rw [← hny] at hi hyc hmi ⊢
            have HNY := Hd.mk hny
            have HI := Hd.mk hi
            clear ha hny hi
            have hI2 : (0 : Int) < (ny : Int) := by omega
            have hdd0 : decide (0 < ny) = true := decide_eq_true (by omega)
            go_upto_block 4 with (fail)
            go_cut [7] from 28 to 43 (fun s7 wc => ∃ k : Nat, s7 = .int .i64 (k : Nat) ∧ Hd (Fr ws wc []) ∧ 1 ≤ k ∧ k ≤ ny ∧ Hd (k = lead x t + 1))
            case first =>
              go_wp2_with (fail)
              go_loopg [7] ny (fun kq kv wr => ∃ k : Nat, kv = .int .i64 (k : Nat) ∧ k + kq = ny + 1 ∧ 1 ≤ k ∧ k ≤ ny ∧ Hd (Fr ws wr []) ∧ Hd (∀ j, j + 1 < k → t[j]? = some x))
              case atStart => exact ⟨1, rfl, by omega, by omega, by omega, ⟨Fr.refl _ _⟩, ⟨fun j hj => by omega⟩⟩
              case round =>
                obtain ⟨k, rfl, hk, hk1, hk2, HFk, HE⟩ := hrel
                obtain ⟨a2, o2, e2, _, hb⟩ := (HY.out.frame (HF.out.trans HFk.out (by simp)) (by simp)) (by simp [i64s])
                injection e2 with e2
                injection e2 with e2 e3
                subst e2 e3
                have d0 := hb 0 (by simp [i64s])
                simp only [i64s, List.map_cons, List.getElem?_cons_zero, Nat.add_zero] at d0
                by_cases h2 : k < ny
                · have hlt : k - 1 < t.length := by have := HNY.out; simp at this; omega
                  obtain ⟨y, hy⟩ : ∃ y, y = t[k - 1] := ⟨_, rfl⟩
                  have hdr : Hd (t[k - 1]? = some y) := ⟨by rw [List.getElem?_eq_getElem hlt, hy]⟩
                  have cb := (hb k (by have := HNY.out; simp [i64s] at this ⊢; omega)).trans (show _ = some (Value.int .i64 y) from by
                    rw [i64s_get, show k = (k - 1) + 1 from by omega, List.getElem?_cons_succ, hdr.out]; rfl)
                  clear hb hy hlt
                  have hI1 : (k : Int) < (ny : Int) := by omega
                  have hdd : decide (k < ny) = true := decide_eq_true h2
                  by_cases h3 : y = x
                  · subst h3
                    go_wp2
                    go_quiet (fail)
                    go_wp2
                    go_roundg (gk - 1)
                    case measure => omega
                    case rel => exact ⟨k + 1, by go_num, by omega, by omega, by omega, ⟨HFk.out.drewN _⟩, ⟨fun j hj => by
                      by_cases e : j + 1 = k
                      · rw [show j = k - 1 from by omega]; exact hdr.out
                      · exact HE.out j (by omega)⟩⟩
                  · have hbq : (y == x) = false := by simpa using h3
                    go_wp2
                    go_quiet (fail)
                    go_wp2
                    go_meet
                    refine ⟨k, rfl, ⟨HFk.out.drewN _⟩, hk1, hk2, ⟨?_⟩⟩
                    rw [lead_eq (k := k - 1) (by have := HNY.out; simp at this; omega) (fun j hj => HE.out j (by omega)) (fun _ e => by rw [hdr.out] at e; injection e with e; exact h3 e)]
                    omega
                · have hd2 : decide (k < ny) = false := decide_eq_false h2
                  clear hb
                  go_wp2
                  go_quiet (fail)
                  go_wp2
                  go_meet
                  refine ⟨k, rfl, ⟨HFk.out.drewN _⟩, hk1, hk2, ⟨?_⟩⟩
                  rw [lead_eq (k := k - 1) (by have := HNY.out; simp at this; omega) (fun j hj => HE.out j (by omega)) (fun h => by have := HNY.out; simp at this; omega)]
                  omega
            case rest =>
              obtain ⟨k, rfl, HFk, hk1, hk2, HK⟩ := hcut
              obtain ⟨R, hR⟩ : ∃ R, R = rowOf x k := ⟨_, rfl⟩
              obtain ⟨L, hL⟩ : ∃ L, L = Runs.rowLen x k := ⟨_, rfl⟩
              have HR := Hd.mk hR
              have HL := Hd.mk hL
              have hL1 : 1 ≤ L := by rw [hL]; exact rowLen_pos _ _
              have hLk : L ≤ k := by rw [hL]; exact rowLen_le _ hk1
              clear hR hL c0
              have HFc := Hd.mk (HF.out.trans HFk.out (by simp) : Fr wo wc [])
              obtain ⟨a2, o2, e2, _, hb⟩ := (HY.out.frame HFc.out (by simp)) (by simp [i64s])
              injection e2 with e2
              injection e2 with e2 e3
              subst e2 e3
              have d0 := hb 0 (by simp [i64s])
              simp only [i64s, List.map_cons, List.getElem?_cons_zero, Nat.add_zero] at d0
              clear hb
              have HOc := Hd.mk (own_frame HO.out HFk.out (by simp))
              by_cases hx0 : x = 0
              · subst hx0
                have f181 := fun w => (kf 7 11 138 w).1
                have f182 := fun w => (kf 7 11 138 w).2
                have f171 := fun w => (kf 3 3 10 w).1
                go_upto_block 6 with (fail)
                go_cut [6, 7] from 48 to 76 (fun s6 s7 wd => ∃ (A2 : Option Addr) (d2 : Nat), s6 = .slice A2 (m + 1) d2 ∧ s7 = .int .i64 (L : Nat) ∧ Hd (wd.ownsRow 0 297 2 (.slice A2 (m + 1) d2) (m + 1) (cells (P ++ R))) ∧ Hd (∀ y, (Value.slice A2 (m + 1) d2).ownBlock = some y → wo.heap.size ≤ y) ∧ Hd (Fr wo wd []))
                case first =>
                  by_cases h11 : 11 ≤ k
                  · have hr : Hd (R = [(18, ((min k 138 : Nat) : Int))]) := ⟨by rw [HR.out]; unfold rowOf; rw [if_pos rfl, if_pos h11]⟩
                    have hl : L = min k 138 := by rw [HL.out]; unfold Runs.rowLen; rw [if_pos rfl, if_pos h11]
                    go_wp2_with (fail)
                    refine (kinds_18 wc).mono ?_
                    rintro e w2 ⟨rfl, g1⟩
                    have G2 := Hd.mk g1
                    clear g1
                    go_wp2_with (fail)
                    refine (kinds_18 w2).mono ?_
                    rintro e w4 ⟨rfl, g1⟩
                    have HF4 := Hd.mk ((HFc.out.trans G2.out (by simp)).trans g1 (by simp))
                    have HO4 := Hd.mk (own_frame (own_frame HOc.out G2.out (by simp)) g1 (by simp))
                    clear g1
                    by_cases h138 : 138 < k
                    · obtain rfl : L = 138 := by omega
                      have hr2 : Hd (R = [(18, 138)]) := ⟨by rw [hr.out, show min k 138 = 138 from by omega]; rfl⟩
                      clear hl
                      go_wp2_with (at_builtin; refine wpList_append_sl rfl (.tmp 61) (.tmp 64) 305 rfl 297 i0 (.agg #[.int .i64 0, .int .i64 0]) 2 16 Tryz.underlying305 hi0 hz0 hz1 hz2 rfl (by decide) (.slice A' m d) m _ rfl (by exact HO4.out.alloc _) (some ⟨w4.heap.size, 0, none⟩) 1 1 [.int .i64 18, .int .i64 138] (some w4.heap.size) rfl rfl (by exact sl_of_blk (blk_new _ _)) (by intro h; cases h) (by intro u hu; simp at hu; rcases hu with rfl | rfl <;> rfl) (by unfold maxLen; omega) (by omega) ?_; intro A3 d3 w3 hown' hgrow haft; have O3 := Hd.mk hown'; have G3 := Hd.mk hgrow; have F3 := Hd.mk haft; clear hown' hgrow haft)
                      go_meet
                      exact ⟨A3, d3, rfl, rfl, ⟨by rw [hr2.out, cells_app]; exact O3.out⟩, ⟨own_new HB.out HF4.out.size F3.out⟩, ⟨(HF4.out.alloc _).grown G3.out (fun y hy => .inr (HB.out y hy))⟩⟩
                    · obtain rfl : L = k := by omega
                      have hr2 : Hd (R = [(18, (L : Int))]) := ⟨by rw [hr.out, show min L 138 = L from by omega]⟩
                      clear hl
                      go_wp2_with (at_builtin; refine wpList_append_sl rfl (.tmp 61) (.tmp 64) 305 rfl 297 i0 (.agg #[.int .i64 0, .int .i64 0]) 2 16 Tryz.underlying305 hi0 hz0 hz1 hz2 rfl (by decide) (.slice A' m d) m _ rfl (by exact HO4.out.alloc _) (some ⟨w4.heap.size, 0, none⟩) 1 1 [.int .i64 18, .int .i64 (L : Nat)] (some w4.heap.size) rfl rfl (by exact sl_of_blk (blk_new _ _)) (by intro h; cases h) (by intro u hu; simp at hu; rcases hu with rfl | rfl <;> rfl) (by unfold maxLen; omega) (by omega) ?_; intro A3 d3 w3 hown' hgrow haft; have O3 := Hd.mk hown'; have G3 := Hd.mk hgrow; have F3 := Hd.mk haft; clear hown' hgrow haft)
                      go_meet
                      exact ⟨A3, d3, rfl, rfl, ⟨by rw [hr2.out, cells_app]; exact O3.out⟩, ⟨own_new HB.out HF4.out.size F3.out⟩, ⟨(HF4.out.alloc _).grown G3.out (fun y hy => .inr (HB.out y hy))⟩⟩
                  · by_cases h3 : 3 ≤ k
                    · have hr : Hd (R = [(17, (k : Int))]) := ⟨by rw [HR.out]; unfold rowOf; rw [if_pos rfl, if_neg h11, if_pos h3]⟩
                      obtain rfl : L = k := by rw [HL.out]; unfold Runs.rowLen; rw [if_pos rfl, if_neg h11, if_pos h3]
                      go_wp2_with (fail)
                      refine (kinds_18 wc).mono ?_
                      rintro e w2 ⟨rfl, g1⟩
                      have G2 := Hd.mk g1
                      clear g1
                      go_wp2_with (fail)
                      refine (kinds_17 w2).mono ?_
                      rintro e w4 ⟨rfl, g1⟩
                      have HF4 := Hd.mk ((HFc.out.trans G2.out (by simp)).trans g1 (by simp))
                      have HO4 := Hd.mk (own_frame (own_frame HOc.out G2.out (by simp)) g1 (by simp))
                      clear g1
                      go_wp2_with (at_builtin; refine wpList_append_sl rfl (.tmp 71) (.tmp 74) 305 rfl 297 i0 (.agg #[.int .i64 0, .int .i64 0]) 2 16 Tryz.underlying305 hi0 hz0 hz1 hz2 rfl (by decide) (.slice A' m d) m _ rfl (by exact HO4.out.alloc _) (some ⟨w4.heap.size, 0, none⟩) 1 1 [.int .i64 17, .int .i64 (L : Nat)] (some w4.heap.size) rfl rfl (by exact sl_of_blk (blk_new _ _)) (by intro h; cases h) (by intro u hu; simp at hu; rcases hu with rfl | rfl <;> rfl) (by unfold maxLen; omega) (by omega) ?_; intro A3 d3 w3 hown' hgrow haft; have O3 := Hd.mk hown'; have G3 := Hd.mk hgrow; have F3 := Hd.mk haft; clear hown' hgrow haft)
                      go_meet
                      exact ⟨A3, d3, rfl, rfl, ⟨by rw [hr.out, cells_app]; exact O3.out⟩, ⟨own_new HB.out HF4.out.size F3.out⟩, ⟨(HF4.out.alloc _).grown G3.out (fun y hy => .inr (HB.out y hy))⟩⟩
                    · have hr : Hd (R = [(0, 1)]) := ⟨by rw [HR.out]; unfold rowOf; rw [if_pos rfl, if_neg h11, if_neg h3]⟩
                      obtain rfl : L = 1 := by rw [HL.out]; unfold Runs.rowLen; rw [if_pos rfl, if_neg h11, if_neg h3]
                      go_wp2_with (fail)
                      refine (kinds_18 wc).mono ?_
                      rintro e w2 ⟨rfl, g1⟩
                      have G2 := Hd.mk g1
                      clear g1
                      go_wp2_with (fail)
                      refine (kinds_17 w2).mono ?_
                      rintro e w4 ⟨rfl, g1⟩
                      have HF4 := Hd.mk ((HFc.out.trans G2.out (by simp)).trans g1 (by simp))
                      have HO4 := Hd.mk (own_frame (own_frame HOc.out G2.out (by simp)) g1 (by simp))
                      clear g1
                      go_wp2_with (at_builtin; refine wpList_append_sl rfl (.tmp 48) (.tmp 50) 305 rfl 297 i0 (.agg #[.int .i64 0, .int .i64 0]) 2 16 Tryz.underlying305 hi0 hz0 hz1 hz2 rfl (by decide) (.slice A' m d) m _ rfl (by exact HO4.out.alloc _) (some ⟨w4.heap.size, 0, none⟩) 1 1 [.int .i64 0, .int .i64 1] (some w4.heap.size) rfl rfl (by exact sl_of_blk (blk_new _ _)) (by intro h; cases h) (by intro u hu; simp at hu; rcases hu with rfl | rfl <;> rfl) (by unfold maxLen; omega) (by omega) ?_; intro A3 d3 w3 hown' hgrow haft; have O3 := Hd.mk hown'; have G3 := Hd.mk hgrow; have F3 := Hd.mk haft; clear hown' hgrow haft)
                      go_meet
                      exact ⟨A3, d3, rfl, rfl, ⟨by rw [hr.out, cells_app]; exact O3.out⟩, ⟨own_new HB.out HF4.out.size F3.out⟩, ⟨(HF4.out.alloc _).grown G3.out (fun y hy => .inr (HB.out y hy))⟩⟩
                case rest =>
                  obtain ⟨A2, d2, rfl, rfl, HO2, HB2, HF2⟩ := hcut
                  have hcutl := run_cut_from (P := Tryz.prog) 79 3 .i64 Tryz.underlying79 hj0 1 hj2 (some ⟨a, o1, none⟩) ny c1 L (by omega)
                  go_wp2
                  go_roundg (gx - L)
                  case measure => have := HI.out; omega
                  case rel =>
                    refine ⟨((0 : Int) :: t).drop L, cutA (some ⟨a, o1, none⟩) c1 L 1, c1 - L, A2, m + 1, d2, P ++ R, by rw [List.length_drop, ← HNY.out], rfl, by rw [List.length_drop, ← HNY.out, HI.out], by rw [List.length_drop, ← HNY.out]; omega, by rw [List.length_drop, ← HNY.out]; omega, ⟨?_⟩, ⟨?_⟩, ⟨?_⟩, HO2, HB2, HF2⟩
                    · have := HY.out.cut (k := L) (c := c1) (n := ny) (by rw [HNY.out]; simp [i64s]) (by omega) (by omega)
                      simpa [i64s, List.map_drop] using this
                    · intro h
                      rw [List.length_drop, ← HNY.out]
                      exact cutA_none (n := ny) (fun h => by cases h) h
                    · rw [← HP.out, List.append_assoc, runs_cons, ← HK.out, ← HR.out, ← HL.out]
              · have hxb : (x == 0) = false := by simpa using hx0
                have hr : Hd (R = (x, 1) :: sixes (k - 1) (k - 1)) := ⟨by rw [HR.out]; unfold rowOf; rw [if_neg hx0]⟩
                have hl : Hd (L = 1 + sixed (k - 1) (k - 1)) := ⟨by rw [HL.out]; unfold Runs.rowLen; rw [if_neg hx0]⟩
                obtain ⟨A5, hA5⟩ : ∃ A5, A5 = cutA (some ⟨a, o1, none⟩) c1 1 1 := ⟨_, rfl⟩
                have hcutl : ∀ W : World, (Instr.slice 79 (.slice (some ⟨a, o1, none⟩) ny c1) (some (.int .i64 1)) none none).run Tryz.prog W = .ok (.slice A5 (ny - 1) (c1 - 1)) W := by
                  rw [hA5]
                  exact run_cut_from (P := Tryz.prog) 79 3 .i64 Tryz.underlying79 hj0 1 hj2 (some ⟨a, o1, none⟩) ny c1 1 (by omega)
                have HY5 : Hd (Sl wo A5 (i64s ((x :: t).drop 1)) p) := ⟨by
                  have := HY.out.cut (k := 1) (c := c1) (n := ny) (by rw [HNY.out]; simp [i64s]) (by omega) (by omega)
                  rw [hA5]
                  simpa [i64s, List.map_drop] using this⟩
                have HN5 : Hd (A5 = none → ny - 1 = 0 ∧ c1 - 1 = 0) := ⟨fun h => cutA_none (fun h => by cases h) (hA5 ▸ h)⟩
                clear hA5
                go_wp2_with (at_builtin; refine wpList_append_sl rfl (.tmp 79) (.tmp 84) 305 rfl 297 i0 (.agg #[.int .i64 0, .int .i64 0]) 2 16 Tryz.underlying305 hi0 hz0 hz1 hz2 rfl (by decide) (.slice A' m d) m _ rfl (by exact HOc.out.alloc _) (some ⟨wc.heap.size, 0, none⟩) 1 1 [.int .i64 x, .int .i64 1] (some wc.heap.size) rfl rfl (by exact sl_of_blk (blk_new _ _)) (by intro h; cases h) (by intro u hu; simp at hu; rcases hu with rfl | rfl <;> rfl) (by unfold maxLen; omega) (by omega) ?_; intro A3 d3 w3 hown' hgrow haft; have O3 := Hd.mk hown'; have G3 := Hd.mk hgrow; have F3 := Hd.mk haft; clear hown' hgrow haft)
                have f161 := fun w => (kf 2 3 6 w).1
                have f162 := fun w => (kf 2 3 6 w).2
                have HF3 : Hd (Fr wo w3 []) := ⟨(HFc.out.alloc _).grown G3.out (fun y hy => .inr (HB.out y hy))⟩
                have HB3 : Hd (∀ y, (Value.slice A3 (m + 1) d3).ownBlock = some y → wo.heap.size ≤ y) := ⟨own_new HB.out HFc.out.size F3.out⟩
                go_loopg [0, 6, 7] k (fun kq lv sv kv wr => ∃ (D j : Nat) (A6 : Option Addr) (n6 c6 : Nat) (A7 : Option Addr) (m7 d7 : Nat) (P7 : List (Int × Int)), lv = .slice A6 n6 c6 ∧ sv = .slice A7 m7 d7 ∧ kv = .int .i64 (j : Nat) ∧ j + 1 ≤ kq ∧ D + j = k ∧ n6 + D = ny ∧ c6 + D = c1 ∧ m7 ≤ m + D ∧ Hd (D + sixed j j = L) ∧ Hd (P7 ++ sixes j j = P ++ R) ∧ Hd (Sl wo A6 (i64s ((x :: t).drop D)) p) ∧ Hd (A6 = none → n6 = 0 ∧ c6 = 0) ∧
                  Hd (wr.ownsRow 0 297 2 (.slice A7 m7 d7) m7 (cells P7)) ∧ Hd (∀ y, (Value.slice A7 m7 d7).ownBlock = some y → wo.heap.size ≤ y) ∧ Hd (Fr wo wr []))
                case atStart => exact ⟨1, k - 1, A5, ny - 1, c1 - 1, A3, m + 1, d3, P ++ [(x, 1)], rfl, rfl, by go_num, by omega, by omega, by omega, by omega, by omega, ⟨hl.out.symm⟩, ⟨by rw [hr.out, List.append_assoc]; rfl⟩, HY5, HN5, ⟨by rw [cells_app]; exact O3.out⟩, HB3, HF3⟩
                case round =>
                  clear HF3 HB3 O3 G3 F3 HY5 HN5 HOc HFc d0 hcutl
                  obtain ⟨D, j, A6, n6, c6, A7, m7, d7, P7, rfl, rfl, rfl, hjk, hDk, hn6, hc6, hm7, HL7, HP7, HY6, HN6, HO7, HB7, HF7⟩ := hrel
                  by_cases h3 : 3 ≤ j
                  · go_wp2_with (fail)
                    refine (kinds_16 wr).mono ?_
                    rintro e w2 ⟨rfl, g1⟩
                    have G2 := Hd.mk g1
                    clear g1
                    go_wp2_with (fail)
                    refine (kinds_16 w2).mono ?_
                    rintro e w8 ⟨rfl, g1⟩
                    have HF8 := Hd.mk ((HF7.out.trans G2.out (by simp)).trans g1 (by simp))
                    have HO8 := Hd.mk (own_frame (own_frame HO7.out G2.out (by simp)) g1 (by simp))
                    clear g1 G2
                    by_cases h6 : 6 < j
                    · skip
                      obtain ⟨A9, hA9⟩ : ∃ A9, A9 = cutA A6 c6 6 1 := ⟨_, rfl⟩
                      have hcutl : ∀ W : World, (Instr.slice 79 (.slice A6 n6 c6) (some (.int .i64 6)) none none).run Tryz.prog W = .ok (.slice A9 (n6 - 6) (c6 - 6)) W := by
                        rw [hA9]
                        exact run_cut_from (P := Tryz.prog) 79 3 .i64 Tryz.underlying79 hj0 1 hj2 A6 n6 c6 6 (by omega)
                      have HY9 : Hd (Sl wo A9 (i64s ((x :: t).drop (D + 6))) p) := ⟨by
                        have := HY6.out.cut (k := 6) (c := c6) (n := n6) (by simp only [i64s_length, List.length_drop, ← HNY.out]; omega) (by omega) (by omega)
                        rw [hA9]
                        simpa [i64s, List.map_drop, List.drop_drop] using this⟩
                      have HN9 : Hd (A9 = none → n6 - 6 = 0 ∧ c6 - 6 = 0) := ⟨fun h => cutA_none HN6.out (hA9 ▸ h)⟩
                      clear hA9
                      go_wp2_with (at_builtin; refine wpList_append_sl rfl (.tmp 98) (.tmp 101) 305 rfl 297 i0 (.agg #[.int .i64 0, .int .i64 0]) 2 16 Tryz.underlying305 hi0 hz0 hz1 hz2 rfl (by decide) (.slice A7 m7 d7) m7 _ rfl (by exact HO8.out.alloc _) (some ⟨w8.heap.size, 0, none⟩) 1 1 [.int .i64 16, .int .i64 6] (some w8.heap.size) rfl rfl (by exact sl_of_blk (blk_new _ _)) (by intro h; cases h) (by intro u hu; simp at hu; rcases hu with rfl | rfl <;> rfl) (by unfold maxLen; omega) (by omega) ?_; intro A3 d3 w3 hown' hgrow haft; have O3 := Hd.mk hown'; have G3 := Hd.mk hgrow; have F3 := Hd.mk haft; clear hown' hgrow haft)
                      go_wp2
                      go_roundg (gk - 1)
                      case measure => omega
                      case rel =>
                        refine ⟨D + 6, j - 6, A9, n6 - 6, c6 - 6, A3, m7 + 1, d3, P7 ++ [(16, 6)], rfl, rfl, by go_num, by omega, by omega, by omega, by omega, by omega, ⟨?_⟩, ⟨?_⟩, HY9, HN9, ⟨by rw [cells_app]; exact O3.out⟩, ⟨own_new HB7.out HF8.out.size F3.out⟩, ⟨(HF8.out.alloc _).grown G3.out (fun y hy => .inr (HB7.out y hy))⟩⟩
                        · have := HL7.out; rw [sixed_step h3, show min j 6 = 6 from by omega] at this; omega
                        · rw [← HP7.out, sixes_step h3, show min j 6 = 6 from by omega, List.append_assoc]
                          rfl
                    · skip
                      obtain ⟨A9, hA9⟩ : ∃ A9, A9 = cutA A6 c6 j 1 := ⟨_, rfl⟩
                      have hcutl : ∀ W : World, (Instr.slice 79 (.slice A6 n6 c6) (some (.int .i64 (j : Nat))) none none).run Tryz.prog W = .ok (.slice A9 (n6 - j) (c6 - j)) W := by
                        rw [hA9]
                        exact run_cut_from (P := Tryz.prog) 79 3 .i64 Tryz.underlying79 hj0 1 hj2 A6 n6 c6 j (by omega)
                      have HY9 : Hd (Sl wo A9 (i64s ((x :: t).drop (D + j))) p) := ⟨by
                        have := HY6.out.cut (k := j) (c := c6) (n := n6) (by simp only [i64s_length, List.length_drop, ← HNY.out]; omega) (by omega) (by omega)
                        rw [hA9]
                        simpa [i64s, List.map_drop, List.drop_drop] using this⟩
                      have HN9 : Hd (A9 = none → n6 - j = 0 ∧ c6 - j = 0) := ⟨fun h => cutA_none HN6.out (hA9 ▸ h)⟩
                      clear hA9
                      go_wp2_with (at_builtin; refine wpList_append_sl rfl (.tmp 98) (.tmp 101) 305 rfl 297 i0 (.agg #[.int .i64 0, .int .i64 0]) 2 16 Tryz.underlying305 hi0 hz0 hz1 hz2 rfl (by decide) (.slice A7 m7 d7) m7 _ rfl (by exact HO8.out.alloc _) (some ⟨w8.heap.size, 0, none⟩) 1 1 [.int .i64 16, .int .i64 (j : Nat)] (some w8.heap.size) rfl rfl (by exact sl_of_blk (blk_new _ _)) (by intro h; cases h) (by intro u hu; simp at hu; rcases hu with rfl | rfl <;> rfl) (by unfold maxLen; omega) (by omega) ?_; intro A3 d3 w3 hown' hgrow haft; have O3 := Hd.mk hown'; have G3 := Hd.mk hgrow; have F3 := Hd.mk haft; clear hown' hgrow haft)
                      go_wp2
                      go_roundg (gk - 1)
                      case measure => omega
                      case rel =>
                        refine ⟨D + j, j - j, A9, n6 - j, c6 - j, A3, m7 + 1, d3, P7 ++ [(16, (j : Int))], rfl, rfl, by go_num, by omega, by omega, by omega, by omega, by omega, ⟨?_⟩, ⟨?_⟩, HY9, HN9, ⟨by rw [cells_app]; exact O3.out⟩, ⟨own_new HB7.out HF8.out.size F3.out⟩, ⟨(HF8.out.alloc _).grown G3.out (fun y hy => .inr (HB7.out y hy))⟩⟩
                        · have := HL7.out; rw [sixed_step h3, show min j 6 = j from by omega] at this; omega
                        · rw [← HP7.out, sixes_step h3, show min j 6 = j from by omega, List.append_assoc]
                          rfl
                  · have hL7 : D = L := by have := HL7.out; rw [sixed_end (by omega)] at this; omega
                    subst hL7
                    go_wp2_with (fail)
                    refine (kinds_16 wr).mono ?_
                    rintro e w2 ⟨rfl, g1⟩
                    have HF8 := Hd.mk (HF7.out.trans g1 (by simp))
                    have HO8 := Hd.mk (own_frame HO7.out g1 (by simp))
                    clear g1
                    go_wp2
                    go_roundg (gx - D)
                    case measure => have := HI.out; omega
                    case rel =>
                      refine ⟨(x :: t).drop D, A6, c6, A7, m7, d7, P7, by rw [List.length_drop, ← HNY.out, show ny - D = n6 from by omega], rfl, by rw [List.length_drop, ← HNY.out, HI.out], by rw [List.length_drop, ← HNY.out]; omega, by rw [List.length_drop, ← HNY.out]; omega, HY6, ⟨?_⟩, ⟨?_⟩, HO8, HB7, HF8⟩
                      · intro h
                        rw [List.length_drop, ← HNY.out]
                        have := HN6.out h
                        omega
                      · have := HP7.out
                        rw [sixes_end (by omega), List.append_nil] at this
                        rw [← HP.out, this, List.append_assoc, runs_cons, ← HK.out, ← HR.out, ← HL.out]
end Go.Proofs.YtkdgfioigkijgaaGreat.Head
/- Runs as lengths: the document's Lens and the program's. Conditions: none but what memory bounds. -/
set_option linter.unusedVariables false
set_option linter.unusedSimpArgs false
set_option maxRecDepth 100000
namespace Go.Proofs.YtkdgfioigkijgaaGreat.Head
open Go.RowKit Go.Proofs.YtkdgfioigkijgaaGreat.Lib Go.Proofs.YtkdgfioigkijgaaGreat.Ints Go.Proofs.YtkdgfioigkijgaaGreat.Runs

def leastN (s : Int) : Int := if s < 16 then 1 else if s = 16 then 3 else if s = 17 then 3 else 11
def mostN (s : Int) : Int := if s < 16 then 1 else if s = 16 then 6 else if s = 17 then 10 else 138
theorem leastN_pos (s : Int) : 1 ≤ leastN s := by unfold leastN; split <;> (try split) <;> (try split) <;> omega
theorem mostN_le (s : Int) : mostN s ≤ 138 := by unfold mostN; split <;> (try split) <;> (try split) <;> omega
def okRun (out : List Int) (s k : Int) : Prop := 0 ≤ s ∧ s ≤ 18 ∧ leastN s ≤ k ∧ k ≤ mostN s ∧ ¬ (s = 16 ∧ out.length = 0) ∧ (out.length : Int) + k ≤ 320
instance (out : List Int) (s k : Int) : Decidable (okRun out s k) := by unfold okRun; exact inferInstance
theorem kinds_low (w : World) (s : Int) (h : s < 16) : Calls Tryz.prog 178 #[.int .i64 s] w fun e w' => e = .returned (.agg #[.int .i64 0, .int .i64 1, .int .i64 1]) ∧ Fr w w' [] := by
  go_enter Tryz.func178, Tryz.ntmps178
  go_wp2
  exact bodyPost_ret (v := .agg #[.int .i64 0, .int .i64 1, .int .i64 1]) (by simp [results, Tryz.results178, go_sem]) rfl ⟨rfl, ((Fr.refl _ _).alloc _).alloc _⟩
theorem least_any (w : World) (s : Int) (h1 : s ≤ 18) : Calls Tryz.prog 95 #[.int .i64 s] w fun e w' => e = .returned (.int .i64 (leastN s)) ∧ w = w' := by
  have hc : s < 16 ∨ s = 16 ∨ s = 17 ∨ s = 18 := by omega
  obtain ⟨L, hL⟩ : ∃ L, L = leastN s := ⟨_, rfl⟩
  rw [← hL]
  rcases hc with h | rfl | rfl | rfl
  · have e1 : (s == 16) = false := by simp; omega
    have e2 : (s == 17) = false := by simp; omega
    have e3 : (s == 18) = false := by simp; omega
    have : L = 1 := by rw [hL]; unfold leastN; rw [if_pos h]
    subst this
    clear hL
    go_enter Tryz.func95, Tryz.ntmps95
    go_wp2
    go_ret
    exact ⟨rfl, rfl⟩
  · obtain rfl : L = 3 := hL.trans (by decide)
    clear hL
    go_enter Tryz.func95, Tryz.ntmps95
    go_wp2
    go_ret
    exact ⟨rfl, rfl⟩
  · obtain rfl : L = 3 := hL.trans (by decide)
    clear hL
    go_enter Tryz.func95, Tryz.ntmps95
    go_wp2
    go_ret
    exact ⟨rfl, rfl⟩
  · obtain rfl : L = 11 := hL.trans (by decide)
    clear hL
    go_enter Tryz.func95, Tryz.ntmps95
    go_wp2
    go_ret
    exact ⟨rfl, rfl⟩
/-- the row that grows: its block, and the list it holds -/
structure RowAt (w : World) (g : Nat) (A : Option Addr) (n c : Nat) (xs : List Int) : Prop where
  blk : w.heap[g]? = some (.cells #[.slice A n c, .int .i64 320] 296 (0, 0))
  own : w.ownsRow 0 3 1 (.slice A n c) n (i64s xs)
  len : xs.length = n
theorem RowAt.frame {w w' : World} {g : Nat} {A : Option Addr} {n c : Nat} {xs : List Int} (h : RowAt w g A n c xs) (hf : Fr w w' []) : RowAt w' g A n c xs := ⟨hf.blk h.blk (by simp), own_frame h.own hf (by simp), h.len⟩
end Go.Proofs.YtkdgfioigkijgaaGreat.Head
/- LensCosts: the cost of any lists, on both sides. Conditions: none but what memory bounds. -/
set_option linter.unusedVariables false
set_option linter.unusedSimpArgs false
set_option maxRecDepth 100000
namespace Go.Proofs.YtkdgfioigkijgaaGreat.Lens
open Go.RowKit Go.Proofs.YtkdgfioigkijgaaGreat.Lib Go.Proofs.YtkdgfioigkijgaaGreat.Ints

/-- is there one that is out of bounds? -/
def out (hi : Int) (xs : List Int) : Bool := xs.any fun x => decide (x < 0 ∨ hi < x)
theorem out_true {hi : Int} {xs : List Int} {j : Nat} (h : j < xs.length) (hx : xs[j] < 0 ∨ hi < xs[j]) : out hi xs = true := by
  simp only [out, List.any_eq_true, decide_eq_true_eq]
  exact ⟨_, List.getElem_mem h, hx⟩
theorem out_false {hi : Int} {xs : List Int} (h : ∀ i, (hi' : i < xs.length) → 0 ≤ xs[i] ∧ xs[i] ≤ hi) : out hi xs = false := by
  rw [Bool.eq_false_iff]
  intro hc
  simp only [out, List.any_eq_true, decide_eq_true_eq] at hc
  obtain ⟨x, hx, h1⟩ := hc
  obtain ⟨i, hi', rfl⟩ := List.getElem_of_mem hx
  have := h i hi'
  omega
theorem of_out {hi : Int} {xs : List Int} (h : out hi xs = false) {j : Nat} (hj : j < xs.length) : 0 ≤ xs[j] ∧ xs[j] ≤ hi := by
  by_cases hx : xs[j] < 0 ∨ hi < xs[j]
  · rw [out_true hj hx] at h; cases h
  · omega
def cn (fs : List Int) : Int := if 288 < fs.length then 40 else if out 1099511627776 fs then 42 else 0
theorem cn_zero {fs : List Int} (h : cn fs = 0) : fs.length ≤ 288 ∧ out 1099511627776 fs = false := by
  unfold cn at h
  split at h
  · cases h
  · split at h
    · cases h
    · rename_i h1 h2; exact ⟨by omega, by cases e : out 1099511627776 fs <;> simp_all⟩
theorem counts_any (w : World) (A : Option Addr) (n c : Nat) (xs : List Int) (p : Option Nat) (hn : xs.length = n) (hS : Sl w A (i64s xs) p) (hn1 : n ≤ 4611686018427387904) :
    Calls Tryz.prog 182 #[.slice A n c] w fun e w' => e = .returned (.int .i64 (cn xs)) ∧ w = w' := by
  subst hn
  have HS := Hd.mk hS
  clear hS
  by_cases hbig : 288 < xs.length
  · have hc : Hd (cn xs = 40) := ⟨by unfold cn; rw [if_pos hbig]⟩
    go_enter Tryz.func182, Tryz.ntmps182
    go_wp2
    go_ret
    exact ⟨by rw [hc.out]; rfl, rfl⟩
  · go_enter Tryz.func182, Tryz.ntmps182
    go_wp2
    go_loopg [10] xs.length (fun kq jv wr => ∃ j : Nat, jv = .int .i64 (j : Nat) ∧ j + kq = xs.length ∧ wr = w ∧ Hd (∀ i, i < j → (h : i < xs.length) → 0 ≤ xs[i] ∧ xs[i] ≤ 1099511627776))
    case atStart => exact ⟨0, rfl, by omega, rfl, ⟨fun i h => absurd h (Nat.not_lt_zero _)⟩⟩
    case round =>
      obtain ⟨j, rfl, hj, rfl, HA⟩ := hrel
      by_cases h1 : j < xs.length
      · obtain ⟨a, o1, rfl, _, ha⟩ := HS.out (by simp [i64s]; omega)
        obtain ⟨x, hx⟩ : ∃ x, x = xs[j] := ⟨_, rfl⟩
        have ca := (ha j (by simp [i64s]; omega)).trans (by rw [i64s_get, List.getElem?_eq_getElem (by omega), ← hx])
        have HX := Hd.mk hx
        clear ha hx
        by_cases h2 : x < 0
        · have hc : Hd (cn xs = 42) := ⟨by unfold cn; rw [if_neg hbig, if_pos (out_true h1 (by rw [← HX.out]; exact .inl h2))]⟩
          go_wp2
          go_ret
          exact ⟨by rw [hc.out]; rfl, rfl⟩
        · by_cases h3 : 1099511627776 < x
          · have hc : Hd (cn xs = 42) := ⟨by unfold cn; rw [if_neg hbig, if_pos (out_true h1 (by rw [← HX.out]; exact .inr h3))]⟩
            go_wp2
            go_ret
            exact ⟨by rw [hc.out]; rfl, rfl⟩
          · go_wp2
            go_roundg (gk - 1)
            case measure => omega
            case rel => exact ⟨j + 1, by go_num, by omega, rfl, ⟨fun i hi h => by
              by_cases e : i = j
              · subst e; rw [← HX.out]; omega
              · exact HA.out i (by omega) h⟩⟩
      · go_wp2
        go_ret
        have hc : cn xs = 0 := by unfold cn; rw [if_neg hbig, out_false (fun i hi => HA.out i (by omega) hi)]; rfl
        exact ⟨by rw [hc]; rfl, rfl⟩
theorem wrong_any (w : World) (A : Option Addr) (n c : Nat) (xs : List Int) (p : Option Nat) (hn : xs.length = n) (hS : Sl w A (i64s xs) p) (hn1 : n ≤ 4611686018427387904) :
    Calls Tryz.prog 146 #[.slice A n c] w fun e w' => e = .returned (.int .i64 (cn xs)) ∧ w = w' := by
  subst hn
  have HS := Hd.mk hS
  clear hS
  by_cases hbig : 288 < xs.length
  · have hc : Hd (cn xs = 40) := ⟨by unfold cn; rw [if_pos hbig]⟩
    go_enter Tryz.func146, Tryz.ntmps146
    go_wp2
    go_ret
    exact ⟨by rw [hc.out]; rfl, rfl⟩
  · go_enter Tryz.func146, Tryz.ntmps146
    go_wp2
    go_loopg [3] xs.length (fun kq jv wr => ∃ j : Nat, jv = .int .i64 (j : Nat) ∧ j + kq = xs.length ∧ wr = w ∧ Hd (∀ i, i < j → (h : i < xs.length) → 0 ≤ xs[i] ∧ xs[i] ≤ 1099511627776))
    case atStart => exact ⟨0, rfl, by omega, rfl, ⟨fun i h => absurd h (Nat.not_lt_zero _)⟩⟩
    case round =>
      obtain ⟨j, rfl, hj, rfl, HA⟩ := hrel
      by_cases h1 : j < xs.length
      · obtain ⟨a, o1, rfl, _, ha⟩ := HS.out (by simp [i64s]; omega)
        obtain ⟨x, hx⟩ : ∃ x, x = xs[j] := ⟨_, rfl⟩
        have ca := (ha j (by simp [i64s]; omega)).trans (by rw [i64s_get, List.getElem?_eq_getElem (by omega), ← hx])
        have HX := Hd.mk hx
        clear ha hx
        by_cases h2 : x < 0
        · have hc : Hd (cn xs = 42) := ⟨by unfold cn; rw [if_neg hbig, if_pos (out_true h1 (by rw [← HX.out]; exact .inl h2))]⟩
          go_wp2
          go_ret
          exact ⟨by rw [hc.out]; rfl, rfl⟩
        · by_cases h3 : 1099511627776 < x
          · have hc : Hd (cn xs = 42) := ⟨by unfold cn; rw [if_neg hbig, if_pos (out_true h1 (by rw [← HX.out]; exact .inr h3))]⟩
            go_wp2
            go_ret
            exact ⟨by rw [hc.out]; rfl, rfl⟩
          · go_wp2
            go_roundg (gk - 1)
            case measure => omega
            case rel => exact ⟨j + 1, by go_num, by omega, rfl, ⟨fun i hi h => by
              by_cases e : i = j
              · subst e; rw [← HX.out]; omega
              · exact HA.out i (by omega) h⟩⟩
      · go_wp2
        go_ret
        have hc : cn xs = 0 := by unfold cn; rw [if_neg hbig, out_false (fun i hi => HA.out i (by omega) hi)]; rfl
        exact ⟨by rw [hc]; rfl, rfl⟩
end Go.Proofs.YtkdgfioigkijgaaGreat.Lens
/- Stable sorting of leaves (chapter 04): the comparison, two ranges exchanged. Conditions: at most 2^40 items. -/
set_option linter.unusedVariables false
set_option linter.unusedSimpArgs false
set_option maxRecDepth 100000
namespace Go.Proofs.YtkdgfioigkijgaaGreat.Sort
open Go.RowKit Go.Proofs.YtkdgfioigkijgaaGreat.Lib Go.Proofs.YtkdgfioigkijgaaGreat.Ints Go.Proofs.YtkdgfioigkijgaaGreat.Sorts

/-- a leaf's cells: its count and its symbol -/
def lfc (x : Nat × Nat) : List Value := [.int .i64 x.1, .int .i64 x.2, .slice none 0 0]
def lfs (xs : List (Nat × Nat)) : List Value := xs.flatMap lfc
/-- the row that is sorted -/
def Rw (w : World) (g n : Nat) (d : Nat → Nat × Nat) : Prop := ∃ cs, w.heap[g]? = some (.cells cs 320 (0, 0)) ∧ cs.toList.take (n * 3) = lfs (lst n d)
theorem Rw.frame {w w' : World} {g n : Nat} {d : Nat → Nat × Nat} (h : Rw w g n d) {F : List Nat} (hf : Fr w w' F) (hg : g ∉ F) : Rw w' g n d := by
  obtain ⟨cs, h1, h2⟩ := h
  exact ⟨cs, hf.blk h1 hg, h2⟩
theorem lfs_len (xs : List (Nat × Nat)) : (lfs xs).length = xs.length * 3 := flat_len lfc 3 (fun _ => rfl) xs
theorem Rw.cell {w : World} {g n : Nat} {d : Nat → Nat × Nat} (h : Rw w g n d) {i j : Nat} (hi : i < n) (hj : j < 3) : w.cell? ⟨g, i * 3 + j, none⟩ = (lfc (d i))[j]? := by
  obtain ⟨cs, h1, h2⟩ := h
  rw [blk_cell h1, ← Array.getElem?_toList]
  have := flat_get lfc 3 (fun _ => rfl) (lst n d) i j (by rw [lst_len]; exact hi) hj
  have e : (lst n d)[i]'(by rw [lst_len]; exact hi) = d i := by simp [lst]
  rw [e] at this
  rw [← this]
  show _ = (lfs (lst n d))[i * 3 + j]?
  rw [← h2, List.getElem?_take, if_pos (by omega)]
theorem Rw.free {w : World} {g n : Nat} {d : Nat → Nat × Nat} (h : Rw w g n d) (o : Nat) : w.frozen? ⟨g, o, none⟩ = false := by
  obtain ⟨cs, h1, _⟩ := h
  exact blk_frozen h1 o
/-- an element is laid into the row -/
theorem Rw.put {w : World} {g n : Nat} {d : Nat → Nat × Nat} (h : Rw w g n d) {i : Nat} (hi : i < n) (x : Nat × Nat) :
    Rw (((w.setCell ⟨g, i * 3, none⟩ (.int .i64 x.1)).setCell ⟨g, i * 3 + 1, none⟩ (.int .i64 x.2)).setCell ⟨g, i * 3 + 2, none⟩ (.slice none 0 0)) g n (fun k => if k = i then x else d k) := by
  obtain ⟨cs, h1, h2⟩ := h
  have b1 := blk_set h1 (i * 3) (.int .i64 x.1)
  have b2 := blk_set b1 (i * 3 + 1) (.int .i64 x.2)
  have b3 := blk_set b2 (i * 3 + 2) (.slice none 0 0)
  refine ⟨_, b3, ?_⟩
  have hl : (lfs (lst n d)).length = n * 3 := by rw [lfs_len, lst_len]
  have hcs : n * 3 ≤ cs.size := by
    have := congrArg List.length h2
    rw [hl, List.length_take] at this
    have e : cs.toList.length = cs.size := by simp
    omega
  apply List.ext_getElem?
  intro k
  by_cases hk : k < n * 3
  · rw [List.getElem?_take, if_pos hk]
    have q0 : k = k / 3 * 3 + k % 3 := by omega
    have r0 : k % 3 < 3 := Nat.mod_lt _ (by decide)
    have hq : k / 3 < n := by omega
    have e1 := flat_get lfc 3 (fun _ => rfl) (lst n (fun k => if k = i then x else d k)) (k / 3) (k % 3) (by rw [lst_len]; exact hq) r0
    have e2 : (lst n (fun k => if k = i then x else d k))[k / 3]'(by rw [lst_len]; exact hq) = if k / 3 = i then x else d (k / 3) := by simp [lst]
    rw [e2, ← q0] at e1
    have e3 := flat_get lfc 3 (fun _ => rfl) (lst n d) (k / 3) (k % 3) (by rw [lst_len]; exact hq) r0
    have e4 : (lst n d)[k / 3]'(by rw [lst_len]; exact hq) = d (k / 3) := by simp [lst]
    rw [e4, ← q0] at e3
    have e5 : cs[k]? = (lfc (d (k / 3)))[k % 3]? := by
      rw [← e3, ← Array.getElem?_toList]
      show _ = (lfs (lst n d))[k]?
      rw [← h2, List.getElem?_take, if_pos hk]
    show _ = (lfs _)[k]?
    unfold lfs
    rw [e1, Array.getElem?_toList]
    simp only [Array.getElem?_setIfInBounds, Array.size_setIfInBounds]
    by_cases c : k / 3 = i
    · rw [if_pos c]
      have : k % 3 = 0 ∨ k % 3 = 1 ∨ k % 3 = 2 := by omega
      rcases this with r | r | r
      · rw [if_neg (by omega), if_neg (by omega), if_pos (by omega), if_pos (by omega), r]; rfl
      · rw [if_neg (by omega), if_pos (by omega), if_pos (by omega), r]; rfl
      · rw [if_pos (by omega), if_pos (by omega), r]; rfl
    · rw [if_neg c, if_neg (by omega), if_neg (by omega), if_neg (by omega), e5]
  · rw [List.getElem?_eq_none (by rw [List.length_take]; omega), List.getElem?_eq_none (by rw [lfs_len, lst_len]; omega)]
theorem Rw.drew {w : World} {g n : Nat} {d : Nat → Nat × Nat} (h : Rw w g n d) : Rw w.drew g n d := h.frame (Fr.refl w []).drew (by simp)
theorem Rw.drewN {w : World} {g n : Nat} {d : Nat → Nat × Nat} (h : Rw w g n d) (m : Nat) : Rw (w.drewN m) g n d := h.frame ((Fr.refl w []).drewN m) (by simp)
theorem Fr.cellAt {w w' : World} {F : List Nat} (h : Fr w w' F) {g o : Nat} {v : Value} (hg : g ∉ F) (hc : w.cell? ⟨g, o, none⟩ = some v) : w'.cell? ⟨g, o, none⟩ = some v :=
  (World.cell?_of_block (w := w) (h.block g (World.block_lt_of_cell? w _ hc) hg)).trans hc
/-- six cells turned: two elements exchanged -/
def six (w : World) (g i j : Nat) (x y : Nat × Nat) : World := (((((w.setCell ⟨g, i * 3, none⟩ (.int .i64 y.1)).setCell ⟨g, i * 3 + 1, none⟩ (.int .i64 y.2)).setCell ⟨g, i * 3 + 2, none⟩ (.slice none 0 0)).setCell ⟨g, j * 3, none⟩ (.int .i64 x.1)).setCell ⟨g, j * 3 + 1, none⟩ (.int .i64 x.2)).setCell ⟨g, j * 3 + 2, none⟩ (.slice none 0 0)
theorem Rw.swap {w : World} {g n : Nat} {d : Nat → Nat × Nat} (h : Rw w g n d) {i j : Nat} (hi : i < n) (hj : j < n) (hne : i ≠ j) {x y : Nat × Nat} (hx : x = d i) (hy : y = d j) : Rw (six w g i j x y) g n (sw d i j) := by
  have h1 := (h.put hi y).put hj x
  have e : (fun k => if k = j then x else if k = i then y else d k) = sw d i j := by
    funext q
    unfold sw
    rw [hx, hy]
    by_cases q1 : q = j
    · rw [if_pos q1, if_neg (by omega), if_pos q1]
    · rw [if_neg q1]
      by_cases q2 : q = i
      · rw [if_pos q2, if_pos q2]
      · rw [if_neg q2, if_neg q2, if_neg q1]
  rw [← e]
  exact h1
theorem Fr.six {w w' : World} {F : List Nat} (h : Fr w w' F) {g i j : Nat} {x y : Nat × Nat} (hg : g ∈ F) : Fr w (six w' g i j x y) F :=
  (((((h.setCell _ (.inl hg)).setCell _ (.inl hg)).setCell _ (.inl hg)).setCell _ (.inl hg)).setCell _ (.inl hg)).setCell _ (.inl hg)
theorem isNaN_any (w : World) (a : Int) : Calls Tryz.prog 203 #[.int .i64 a] w fun e w' => e = .returned (.bool false) ∧ w = w' := by
  have h : (a != a) = false := by simp
  go_enter Tryz.func203, Tryz.ntmps203
  go_wp2
  go_ret
  exact ⟨rfl, rfl⟩
def cmpv (a b : Int) : Int := if a < b then -1 else if b < a then 1 else 0
theorem compare_any (w : World) (a b : Int) : Calls Tryz.prog 198 #[.int .i64 a, .int .i64 b] w fun e w' => e = .returned (.int .i64 (cmpv a b)) ∧ w = w' := by
  by_cases h1 : a < b
  · have hc : Hd (cmpv a b = -1) := ⟨by unfold cmpv; rw [if_pos h1]⟩
    go_enter Tryz.func198, Tryz.ntmps198
    go_wp2_with ((with_reducible refine (isNaN_any _ _).mono ?_); rintro e w' ⟨rfl, rfl⟩)
    go_ret
    rw [hc.out]
    exact ⟨rfl, rfl⟩
  · by_cases h2 : b < a
    · have hc : Hd (cmpv a b = 1) := ⟨by unfold cmpv; rw [if_neg h1, if_pos h2]⟩
      go_enter Tryz.func198, Tryz.ntmps198
      go_wp2_with ((with_reducible refine (isNaN_any _ _).mono ?_); rintro e w' ⟨rfl, rfl⟩)
      go_ret
      rw [hc.out]
      exact ⟨rfl, rfl⟩
    · have hc : Hd (cmpv a b = 0) := ⟨by unfold cmpv; rw [if_neg h1, if_neg h2]⟩
      go_enter Tryz.func198, Tryz.ntmps198
      go_wp2_with ((with_reducible refine (isNaN_any _ _).mono ?_); rintro e w' ⟨rfl, rfl⟩)
      go_ret
      rw [hc.out]
      exact ⟨rfl, rfl⟩
/-- the comparison that leaves are sorted by -/
theorem less_any (w : World) (x y : Nat × Nat) :
    Calls Tryz.prog 197 #[.agg #[.int .i64 x.1, .int .i64 x.2, .slice none 0 0], .agg #[.int .i64 y.1, .int .i64 y.2, .slice none 0 0]] w fun e w' => e = .returned (.int .i64 (cmpv x.1 y.1)) ∧ Fr w w' [] := by
  go_enter Tryz.func197, Tryz.ntmps197
  go_wp2_with ((with_reducible refine (compare_any _ _ _).mono ?_); rintro e w' ⟨rfl, rfl⟩)
  go_ret
  exact ⟨rfl, ((Fr.refl _ _).alloc _).alloc _⟩
set_option maxHeartbeats 4000000 in
theorem swapRange_any (w : World) (g n c : Nat) (d : Nat → Nat × Nat) (a b k : Nat) (f : Value) (hR : Rw w g n d) (hn : n ≤ 1099511627776) (hnc : n ≤ c) (h1 : a + k ≤ b) (h2 : b + k ≤ n) :
    Calls Tryz.prog 211 #[.slice (some ⟨g, 0, none⟩) n c, .int .i64 (a : Nat), .int .i64 (b : Nat), .int .i64 (k : Nat), f] w fun e w' => e = .returned (.tuple #[]) ∧ Rw w' g n (swr d a b k) ∧ Fr w w' [g] := by
  have HR := Hd.mk hR
  clear hR
  go_enter Tryz.func211, Tryz.ntmps211
  go_wp2
  go_loopg [10] k (fun kq iv wr => ∃ i : Nat, iv = .int .i64 (i : Nat) ∧ i + kq = k ∧ Hd (Rw wr g n (swr d a b i)) ∧ Hd (Fr w wr [g]))
  case atStart => exact ⟨0, rfl, by omega, ⟨by rw [swr_zero]; exact HR.out⟩, ⟨Fr.refl _ _⟩⟩
  case round =>
    obtain ⟨i, rfl, hi, HRi, HF⟩ := hrel
    by_cases hik : i < k
    · have ca0 := HRi.out.cell (i := a + i) (j := 0) (by omega) (by decide)
      have ca1 := HRi.out.cell (i := a + i) (j := 1) (by omega) (by decide)
      have ca2 := HRi.out.cell (i := a + i) (j := 2) (by omega) (by decide)
      have cb0 := HRi.out.cell (i := b + i) (j := 0) (by omega) (by decide)
      have cb1 := HRi.out.cell (i := b + i) (j := 1) (by omega) (by decide)
      have cb2 := HRi.out.cell (i := b + i) (j := 2) (by omega) (by decide)
      obtain ⟨x, hx⟩ : ∃ x, x = swr d a b i (a + i) := ⟨_, rfl⟩
      obtain ⟨y, hy⟩ : ∃ y, y = swr d a b i (b + i) := ⟨_, rfl⟩
      rw [← hx] at ca0 ca1 ca2
      rw [← hy] at cb0 cb1 cb2
      have HX := Hd.mk hx
      have HY := Hd.mk hy
      clear hx hy
      have fr : ∀ o, wr.frozen? ⟨g, o, none⟩ = false := HRi.out.free
      simp only [lfc, List.getElem?_cons_zero, List.getElem?_cons_succ, Nat.add_zero] at ca0 ca1 ca2 cb0 cb1 cb2
      go_upto_region 3 with (fail)
      have n1 : (↑a + ↑i : Int).toNat = a + i := by omega
      have n2 : (↑b + ↑i : Int).toNat = b + i := by omega
      have n3 : IntKind.i64.wrap (↑a + ↑i) = ↑a + ↑i := IntWalk.i64_in _ (by omega)
      have n4 : IntKind.i64.wrap (↑b + ↑i) = ↑b + ↑i := IntWalk.i64_in _ (by omega)
      have n5 : (0 : Int) ≤ ↑a + ↑i := by omega
      have n6 : (0 : Int) ≤ ↑b + ↑i := by omega
      have n7 : (↑a + ↑i : Int) < ↑n := by omega
      have n8 : (↑b + ↑i : Int) < ↑n := by omega
      go_region
      have HP : Hd (Rw (six wr g (a + i) (b + i) x y).drew g n (swr d a b (i + 1))) := ⟨by
        rw [← swr_step d (a := a) (b := b) (i := i) (by omega)]
        exact (HRi.out.swap (by omega) (by omega) (by omega) HX.out HY.out).drew⟩
      have HF2 : Hd (Fr w (six wr g (a + i) (b + i) x y).drew [g]) := ⟨(Fr.six HF.out (by simp)).drew⟩
      clear n1 n2 n3 n4 n5 n6 n7 n8 ca0 ca1 ca2 cb0 cb1 cb2 fr
      unfold six at HP HF2
      go_wp2
      go_roundg (gk - 1)
      case measure => omega
      case rel => exact ⟨i + 1, by go_num, by omega, HP, HF2⟩
    · obtain rfl : i = k := by omega
      go_wp2
      go_end0
      exact ⟨rfl, HRi.out, HF.out⟩
end Go.Proofs.YtkdgfioigkijgaaGreat.Sort
