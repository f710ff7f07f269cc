/- Texts of this claim, one behind the other: HeadRuns2, HeadLens, HeadPlan, HeadPlanA, HeadPlanB. -/
import Derived.Test.YtkdgfioigkijgaaT01
import Derived.Test.YtkdgfioigkijgaaT02
import Derived.Test.YtkdgfioigkijgaaT03
import Derived.Test.YtkdgfioigkijgaaT04
import Derived.Test.YtkdgfioigkijgaaT05
import Derived.Test.YtkdgfioigkijgaaT07
import Derived.Test.YtkdgfioigkijgaaT08
import Derived.Test.YtkdgfioigkijgaaT09
import Derived.Test.YtkdgfioigkijgaaT10
import Derived.Deep.CutBlock
import Derived.Deep.CutRange
import Derived.Deep.Light
/- The program's Runs. Conditions: none but what memory bounds. -/
set_option linter.unusedVariables false
set_option linter.unusedSimpArgs false
set_option maxRecDepth 100000
namespace Go.Proofs.Ytkdgfioigkijgaa.Head
open Go.RowKit Go.Proofs.Ytkdgfioigkijgaa.Lib Go.Proofs.Ytkdgfioigkijgaa.Ints Go.Proofs.Ytkdgfioigkijgaa.Runs

theorem infoRunA : (Try.prog.info? 187).map (fun i => (i.zero, i.size, i.bytes)) = some (some (.agg #[.int .i64 0, .int .i64 0]), 2, 16) := by kernel_rfl
theorem kf (a b c : Int) (w : World) : (Instr.field 189 (.agg #[.int .i64 a, .int .i64 b, .int .i64 c]) 1).run Try.prog w = .ok (.int .i64 b) w ∧ (Instr.field 189 (.agg #[.int .i64 a, .int .i64 b, .int .i64 c]) 2).run Try.prog w = .ok (.int .i64 c) w := ⟨by kernel_rfl, by kernel_rfl⟩
theorem own_new {wo w : World} {q q' : Option Nat} (hB : ∀ x, q = some x → wo.heap.size ≤ x) (hs : wo.heap.size ≤ w.heap.size) {o : Obj} (h : Aft (w.alloc o) q q') : ∀ y, q' = some y → wo.heap.size ≤ y := by
  intro y hy
  rcases h with e | ⟨z, e, hz⟩
  · rw [e] at hy; exact hB y hy
  · rw [e] at hy; cases hy; simp at hz; omega
set_option maxHeartbeats 8000000 in
theorem runs_any (w : World) (A : Option Addr) (n c : Nat) (xs : List Int) (p : Option Nat) (hn : xs.length = n) (hnc : n ≤ c) (hS : Sl w A (i64s xs) p) (hA : A = none → n = 0 ∧ c = 0) (hn1 : n ≤ 4611686018427387904) (ec : Int) (rs : List (Int × Int)) (hec : ec = if bad xs then 80 else 0) (hrs : rs = if bad xs then [] else runs xs) :
    Calls Try.prog 104 #[.slice A n c] w fun e w' => ∃ A' m d, e = .returned (.tuple #[.slice A' m d, .int .i64 ec]) ∧
      w'.ownsRow 0 187 2 (.slice A' m d) m (cells rs) ∧ (∀ j, (Value.slice A' m d).ownBlock = some j → w.heap.size ≤ j) ∧ Fr w w' [] := by
  obtain ⟨i0, hi0, hz0, hz1, hz2⟩ := info_parts infoRunA
  obtain ⟨j0, hj0, hj1, hj2, hj3⟩ := info_parts infoI64
  subst hn
  have HS := Hd.mk hS
  have HA0 := Hd.mk hA
  have HEC := Hd.mk hec
  have HRS := Hd.mk hrs
  clear hS hA hec hrs
  by_cases hbig : 320 < xs.length
  · have hc : Hd (bad xs = true) := ⟨by unfold bad; rw [decide_eq_true hbig]; rfl⟩
    go_enter Try.func104, Try.ntmps104
    go_wp2
    go_ret2
    exact ⟨none, 0, 0, by rw [HEC.out, hc.out]; rfl, by rw [HRS.out, hc.out]; exact own_nil _ _ _ _, (by intro j hj; cases hj), Fr.refl _ _⟩
  · go_enter Try.func104, Try.ntmps104
    go_wp2
    go_loopg [14] xs.length (fun kq jv wr => ∃ j : Nat, jv = .int .i64 (j : Nat) ∧ j + kq = xs.length ∧ wr = w ∧ Hd (∀ i, i < j → (h : i < xs.length) → 0 ≤ xs[i] ∧ xs[i] ≤ 15))
    case atStart => exact ⟨0, rfl, by omega, rfl, ⟨fun i h => absurd h (Nat.not_lt_zero _)⟩⟩
    case round =>
      obtain ⟨j, rfl, hj, rfl, HA⟩ := hrel
      by_cases h1 : j < xs.length
      · obtain ⟨a, o1, rfl, _, ha⟩ := HS.out (by simp [i64s]; omega)
        obtain ⟨x, hx⟩ : ∃ x, x = xs[j] := ⟨_, rfl⟩
        have ca := (ha j (by simp [i64s]; omega)).trans (by rw [i64s_get, List.getElem?_eq_getElem (by omega), ← hx])
        have HX := Hd.mk hx
        clear ha hx
        by_cases h2 : x < 0
        · have hc : Hd (bad xs = true) := ⟨by unfold bad; rw [out_true h1 (by rw [← HX.out]; exact .inl h2), Bool.or_true]⟩
          go_wp2
          go_ret2
          exact ⟨none, 0, 0, by rw [HEC.out, hc.out]; rfl, by rw [HRS.out, hc.out]; exact own_nil _ _ _ _, (by intro j hj; cases hj), Fr.refl _ _⟩
        · by_cases h3 : 15 < x
          · have hc : Hd (bad xs = true) := ⟨by unfold bad; rw [out_true h1 (by rw [← HX.out]; exact .inr h3), Bool.or_true]⟩
            go_wp2
            go_ret2
            exact ⟨none, 0, 0, by rw [HEC.out, hc.out]; rfl, by rw [HRS.out, hc.out]; exact own_nil _ _ _ _, (by intro j hj; cases hj), Fr.refl _ _⟩
          · go_wp2
            go_roundg (gk - 1)
            case measure => omega
            case rel => exact ⟨j + 1, by go_num, by omega, rfl, ⟨fun i hi h => by
              by_cases e : i = j
              · subst e; rw [← HX.out]; omega
              · exact HA.out i (by omega) h⟩⟩
      · have hc : Hd (bad xs = false) := ⟨by unfold bad; rw [out_false (fun i hi => HA.out i (by omega) hi), decide_eq_false hbig]; rfl⟩
        clear HA
        obtain ⟨wo, rfl⟩ : ∃ wo : World, wo = wr := ⟨_, rfl⟩
        go_wp2
        go_loopg [0, 6] xs.length (fun kq lv sv wr => ∃ (ys : List Int) (A1 : Option Addr) (c1 : Nat) (A' : Option Addr) (m d : Nat) (P : List (Int × Int)), lv = .slice A1 ys.length c1 ∧ sv = .slice A' m d ∧ ys.length = kq ∧ ys.length ≤ c1 ∧ m + ys.length ≤ xs.length ∧ Hd (Sl wo A1 (i64s ys) p) ∧ Hd (A1 = none → ys.length = 0 ∧ c1 = 0) ∧
          Hd (P ++ runs ys = runs xs) ∧ Hd (wr.ownsRow 0 187 2 (.slice A' m d) m (cells P)) ∧ Hd (∀ x, (Value.slice A' m d).ownBlock = some x → wo.heap.size ≤ x) ∧ Hd (Fr wo wr []))
        case atStart => exact ⟨xs, A, c, none, 0, 0, [], rfl, rfl, rfl, hnc, by omega, HS, HA0, ⟨rfl⟩, ⟨own_nil _ _ _ _⟩, ⟨by intro x hx; cases hx⟩, ⟨Fr.refl _ _⟩⟩
        case round =>
          obtain ⟨ws, rfl⟩ : ∃ ws : World, ws = wr := ⟨_, rfl⟩
          obtain ⟨gx, rfl⟩ : ∃ gx : Nat, gx = gk := ⟨_, rfl⟩
          obtain ⟨ys, A1, c1, A', m, d, P, rfl, rfl, hi, hyc, hmi, HY, HYA, HP, HO, HB, HF⟩ := hrel
          cases ys with
          | nil =>
            have hp := HP.out
            rw [runs_nil, List.append_nil] at hp
            have hrs2 : Hd (rs = P) := ⟨by rw [HRS.out, hc.out, hp]; rfl⟩
            have hec2 : Hd (ec = 0) := ⟨by rw [HEC.out, hc.out]; rfl⟩
            simp only [List.length_nil]
            go_wp2
            go_ret2
            rw [hrs2.out, hec2.out]
            exact ⟨A', m, d, rfl, HO.out, HB.out, HF.out⟩
          | cons x t =>
            obtain ⟨a, o1, rfl, _, ha⟩ := (HY.out.frame HF.out (by simp)) (by simp [i64s])
            have c0 := ha 0 (by simp [i64s])
            simp only [i64s, List.map_cons, List.getElem?_cons_zero, Nat.add_zero] at c0
            have HC := Hd.mk ha
            obtain ⟨ny, hny⟩ : ∃ ny, ny = (x :: t).length := ⟨_, rfl⟩
            have hny1 : 1 ≤ ny := by rw [hny]; simp
            rw [← hny] at hi hyc hmi ⊢
            have HNY := Hd.mk hny
            have HI := Hd.mk hi
            clear ha hny hi
            have hI2 : (0 : Int) < (ny : Int) := by omega
            have hdd0 : decide (0 < ny) = true := decide_eq_true (by omega)
            go_upto_block 4 with (fail)
            go_cut [7] from 28 to 43 (fun s7 wc => ∃ k : Nat, s7 = .int .i64 (k : Nat) ∧ Hd (Fr ws wc []) ∧ 1 ≤ k ∧ k ≤ ny ∧ Hd (k = lead x t + 1))
            case first =>
              go_wp2_with (fail)
              go_loopg [7] ny (fun kq kv wr => ∃ k : Nat, kv = .int .i64 (k : Nat) ∧ k + kq = ny + 1 ∧ 1 ≤ k ∧ k ≤ ny ∧ Hd (Fr ws wr []) ∧ Hd (∀ j, j + 1 < k → t[j]? = some x))
              case atStart => exact ⟨1, rfl, by omega, by omega, by omega, ⟨Fr.refl _ _⟩, ⟨fun j hj => by omega⟩⟩
              case round =>
                obtain ⟨k, rfl, hk, hk1, hk2, HFk, HE⟩ := hrel
                obtain ⟨a2, o2, e2, _, hb⟩ := (HY.out.frame (HF.out.trans HFk.out (by simp)) (by simp)) (by simp [i64s])
                injection e2 with e2
                injection e2 with e2 e3
                subst e2 e3
                have d0 := hb 0 (by simp [i64s])
                simp only [i64s, List.map_cons, List.getElem?_cons_zero, Nat.add_zero] at d0
                by_cases h2 : k < ny
                · have hlt : k - 1 < t.length := by have := HNY.out; simp at this; omega
                  obtain ⟨y, hy⟩ : ∃ y, y = t[k - 1] := ⟨_, rfl⟩
                  have hdr : Hd (t[k - 1]? = some y) := ⟨by rw [List.getElem?_eq_getElem hlt, hy]⟩
                  have cb := (hb k (by have := HNY.out; simp [i64s] at this ⊢; omega)).trans (show _ = some (Value.int .i64 y) from by
                    rw [i64s_get, show k = (k - 1) + 1 from by omega, List.getElem?_cons_succ, hdr.out]; rfl)
                  clear hb hy hlt
                  have hI1 : (k : Int) < (ny : Int) := by omega
                  have hdd : decide (k < ny) = true := decide_eq_true h2
                  by_cases h3 : y = x
                  · subst h3
                    go_wp2
                    go_quiet (fail)
                    go_wp2
                    go_roundg (gk - 1)
                    case measure => omega
                    case rel => exact ⟨k + 1, by go_num, by omega, by omega, by omega, ⟨HFk.out.drewN _⟩, ⟨fun j hj => by
                      by_cases e : j + 1 = k
                      · rw [show j = k - 1 from by omega]; exact hdr.out
                      · exact HE.out j (by omega)⟩⟩
                  · have hbq : (y == x) = false := by simpa using h3
                    go_wp2
                    go_quiet (fail)
                    go_wp2
                    go_meet
                    refine ⟨k, rfl, ⟨HFk.out.drewN _⟩, hk1, hk2, ⟨?_⟩⟩
                    rw [lead_eq (k := k - 1) (by have := HNY.out; simp at this; omega) (fun j hj => HE.out j (by omega)) (fun _ e => by rw [hdr.out] at e; injection e with e; exact h3 e)]
                    omega
                · have hd2 : decide (k < ny) = false := decide_eq_false h2
                  clear hb
                  go_wp2
                  go_quiet (fail)
                  go_wp2
                  go_meet
                  refine ⟨k, rfl, ⟨HFk.out.drewN _⟩, hk1, hk2, ⟨?_⟩⟩
                  rw [lead_eq (k := k - 1) (by have := HNY.out; simp at this; omega) (fun j hj => HE.out j (by omega)) (fun h => by have := HNY.out; simp at this; omega)]
                  omega
            case rest =>
              obtain ⟨k, rfl, HFk, hk1, hk2, HK⟩ := hcut
              obtain ⟨R, hR⟩ : ∃ R, R = rowOf x k := ⟨_, rfl⟩
              obtain ⟨L, hL⟩ : ∃ L, L = Runs.rowLen x k := ⟨_, rfl⟩
              have HR := Hd.mk hR
              have HL := Hd.mk hL
              have hL1 : 1 ≤ L := by rw [hL]; exact rowLen_pos _ _
              have hLk : L ≤ k := by rw [hL]; exact rowLen_le _ hk1
              clear hR hL c0
              have HFc := Hd.mk (HF.out.trans HFk.out (by simp) : Fr wo wc [])
              obtain ⟨a2, o2, e2, _, hb⟩ := (HY.out.frame HFc.out (by simp)) (by simp [i64s])
              injection e2 with e2
              injection e2 with e2 e3
              subst e2 e3
              have d0 := hb 0 (by simp [i64s])
              simp only [i64s, List.map_cons, List.getElem?_cons_zero, Nat.add_zero] at d0
              clear hb
              have HOc := Hd.mk (own_frame HO.out HFk.out (by simp))
              by_cases hx0 : x = 0
              · subst hx0
                have f181 := fun w => (kf 7 11 138 w).1
                have f182 := fun w => (kf 7 11 138 w).2
                have f171 := fun w => (kf 3 3 10 w).1
                go_upto_block 6 with (fail)
                go_cut [6, 7] from 48 to 76 (fun s6 s7 wd => ∃ (A2 : Option Addr) (d2 : Nat), s6 = .slice A2 (m + 1) d2 ∧ s7 = .int .i64 (L : Nat) ∧ Hd (wd.ownsRow 0 187 2 (.slice A2 (m + 1) d2) (m + 1) (cells (P ++ R))) ∧ Hd (∀ y, (Value.slice A2 (m + 1) d2).ownBlock = some y → wo.heap.size ≤ y) ∧ Hd (Fr wo wd []))
                case first =>
                  by_cases h11 : 11 ≤ k
                  · have hr : Hd (R = [(18, ((min k 138 : Nat) : Int))]) := ⟨by rw [HR.out]; unfold rowOf; rw [if_pos rfl, if_pos h11]⟩
                    have hl : L = min k 138 := by rw [HL.out]; unfold Runs.rowLen; rw [if_pos rfl, if_pos h11]
                    go_wp2_with (fail)
                    refine (kinds_18 wc).mono ?_
                    rintro e w2 ⟨rfl, g1⟩
                    have G2 := Hd.mk g1
                    clear g1
                    go_wp2_with (fail)
                    refine (kinds_18 w2).mono ?_
                    rintro e w4 ⟨rfl, g1⟩
                    have HF4 := Hd.mk ((HFc.out.trans G2.out (by simp)).trans g1 (by simp))
                    have HO4 := Hd.mk (own_frame (own_frame HOc.out G2.out (by simp)) g1 (by simp))
                    clear g1
                    by_cases h138 : 138 < k
                    · obtain rfl : L = 138 := by omega
                      have hr2 : Hd (R = [(18, 138)]) := ⟨by rw [hr.out, show min k 138 = 138 from by omega]; rfl⟩
                      clear hl
                      go_wp2_with (at_builtin; refine wpList_append_sl rfl (.tmp 61) (.tmp 64) 181 rfl 187 i0 (.agg #[.int .i64 0, .int .i64 0]) 2 16 Try.underlying181 hi0 hz0 hz1 hz2 rfl (by decide) (.slice A' m d) m _ rfl (by exact HO4.out.alloc _) (some ⟨w4.heap.size, 0, none⟩) 1 1 [.int .i64 18, .int .i64 138] (some w4.heap.size) rfl rfl (by exact sl_of_blk (blk_new _ _)) (by intro h; cases h) (by intro u hu; simp at hu; rcases hu with rfl | rfl <;> rfl) (by unfold maxLen; omega) (by omega) ?_; intro A3 d3 w3 hown' hgrow haft; have O3 := Hd.mk hown'; have G3 := Hd.mk hgrow; have F3 := Hd.mk haft; clear hown' hgrow haft)
                      go_meet
                      exact ⟨A3, d3, rfl, rfl, ⟨by rw [hr2.out, cells_app]; exact O3.out⟩, ⟨own_new HB.out HF4.out.size F3.out⟩, ⟨(HF4.out.alloc _).grown G3.out (fun y hy => .inr (HB.out y hy))⟩⟩
                    · obtain rfl : L = k := by omega
                      have hr2 : Hd (R = [(18, (L : Int))]) := ⟨by rw [hr.out, show min L 138 = L from by omega]⟩
                      clear hl
                      go_wp2_with (at_builtin; refine wpList_append_sl rfl (.tmp 61) (.tmp 64) 181 rfl 187 i0 (.agg #[.int .i64 0, .int .i64 0]) 2 16 Try.underlying181 hi0 hz0 hz1 hz2 rfl (by decide) (.slice A' m d) m _ rfl (by exact HO4.out.alloc _) (some ⟨w4.heap.size, 0, none⟩) 1 1 [.int .i64 18, .int .i64 (L : Nat)] (some w4.heap.size) rfl rfl (by exact sl_of_blk (blk_new _ _)) (by intro h; cases h) (by intro u hu; simp at hu; rcases hu with rfl | rfl <;> rfl) (by unfold maxLen; omega) (by omega) ?_; intro A3 d3 w3 hown' hgrow haft; have O3 := Hd.mk hown'; have G3 := Hd.mk hgrow; have F3 := Hd.mk haft; clear hown' hgrow haft)
                      go_meet
                      exact ⟨A3, d3, rfl, rfl, ⟨by rw [hr2.out, cells_app]; exact O3.out⟩, ⟨own_new HB.out HF4.out.size F3.out⟩, ⟨(HF4.out.alloc _).grown G3.out (fun y hy => .inr (HB.out y hy))⟩⟩
                  · by_cases h3 : 3 ≤ k
                    · have hr : Hd (R = [(17, (k : Int))]) := ⟨by rw [HR.out]; unfold rowOf; rw [if_pos rfl, if_neg h11, if_pos h3]⟩
                      obtain rfl : L = k := by rw [HL.out]; unfold Runs.rowLen; rw [if_pos rfl, if_neg h11, if_pos h3]
                      go_wp2_with (fail)
                      refine (kinds_18 wc).mono ?_
                      rintro e w2 ⟨rfl, g1⟩
                      have G2 := Hd.mk g1
                      clear g1
                      go_wp2_with (fail)
                      refine (kinds_17 w2).mono ?_
                      rintro e w4 ⟨rfl, g1⟩
                      have HF4 := Hd.mk ((HFc.out.trans G2.out (by simp)).trans g1 (by simp))
                      have HO4 := Hd.mk (own_frame (own_frame HOc.out G2.out (by simp)) g1 (by simp))
                      clear g1
                      go_wp2_with (at_builtin; refine wpList_append_sl rfl (.tmp 71) (.tmp 74) 181 rfl 187 i0 (.agg #[.int .i64 0, .int .i64 0]) 2 16 Try.underlying181 hi0 hz0 hz1 hz2 rfl (by decide) (.slice A' m d) m _ rfl (by exact HO4.out.alloc _) (some ⟨w4.heap.size, 0, none⟩) 1 1 [.int .i64 17, .int .i64 (L : Nat)] (some w4.heap.size) rfl rfl (by exact sl_of_blk (blk_new _ _)) (by intro h; cases h) (by intro u hu; simp at hu; rcases hu with rfl | rfl <;> rfl) (by unfold maxLen; omega) (by omega) ?_; intro A3 d3 w3 hown' hgrow haft; have O3 := Hd.mk hown'; have G3 := Hd.mk hgrow; have F3 := Hd.mk haft; clear hown' hgrow haft)
                      go_meet
                      exact ⟨A3, d3, rfl, rfl, ⟨by rw [hr.out, cells_app]; exact O3.out⟩, ⟨own_new HB.out HF4.out.size F3.out⟩, ⟨(HF4.out.alloc _).grown G3.out (fun y hy => .inr (HB.out y hy))⟩⟩
                    · have hr : Hd (R = [(0, 1)]) := ⟨by rw [HR.out]; unfold rowOf; rw [if_pos rfl, if_neg h11, if_neg h3]⟩
                      obtain rfl : L = 1 := by rw [HL.out]; unfold Runs.rowLen; rw [if_pos rfl, if_neg h11, if_neg h3]
                      go_wp2_with (fail)
                      refine (kinds_18 wc).mono ?_
                      rintro e w2 ⟨rfl, g1⟩
                      have G2 := Hd.mk g1
                      clear g1
                      go_wp2_with (fail)
                      refine (kinds_17 w2).mono ?_
                      rintro e w4 ⟨rfl, g1⟩
                      have HF4 := Hd.mk ((HFc.out.trans G2.out (by simp)).trans g1 (by simp))
                      have HO4 := Hd.mk (own_frame (own_frame HOc.out G2.out (by simp)) g1 (by simp))
                      clear g1
                      go_wp2_with (at_builtin; refine wpList_append_sl rfl (.tmp 48) (.tmp 50) 181 rfl 187 i0 (.agg #[.int .i64 0, .int .i64 0]) 2 16 Try.underlying181 hi0 hz0 hz1 hz2 rfl (by decide) (.slice A' m d) m _ rfl (by exact HO4.out.alloc _) (some ⟨w4.heap.size, 0, none⟩) 1 1 [.int .i64 0, .int .i64 1] (some w4.heap.size) rfl rfl (by exact sl_of_blk (blk_new _ _)) (by intro h; cases h) (by intro u hu; simp at hu; rcases hu with rfl | rfl <;> rfl) (by unfold maxLen; omega) (by omega) ?_; intro A3 d3 w3 hown' hgrow haft; have O3 := Hd.mk hown'; have G3 := Hd.mk hgrow; have F3 := Hd.mk haft; clear hown' hgrow haft)
                      go_meet
                      exact ⟨A3, d3, rfl, rfl, ⟨by rw [hr.out, cells_app]; exact O3.out⟩, ⟨own_new HB.out HF4.out.size F3.out⟩, ⟨(HF4.out.alloc _).grown G3.out (fun y hy => .inr (HB.out y hy))⟩⟩
                case rest =>
                  obtain ⟨A2, d2, rfl, rfl, HO2, HB2, HF2⟩ := hcut
                  have hcutl := run_cut_from (P := Try.prog) 70 3 .i64 Try.underlying70 hj0 1 hj2 (some ⟨a, o1, none⟩) ny c1 L (by omega)
                  go_wp2
                  go_roundg (gx - L)
                  case measure => have := HI.out; omega
                  case rel =>
                    refine ⟨((0 : Int) :: t).drop L, cutA (some ⟨a, o1, none⟩) c1 L 1, c1 - L, A2, m + 1, d2, P ++ R, by rw [List.length_drop, ← HNY.out], rfl, by rw [List.length_drop, ← HNY.out, HI.out], by rw [List.length_drop, ← HNY.out]; omega, by rw [List.length_drop, ← HNY.out]; omega, ⟨?_⟩, ⟨?_⟩, ⟨?_⟩, HO2, HB2, HF2⟩
                    · have := HY.out.cut (k := L) (c := c1) (n := ny) (by rw [HNY.out]; simp [i64s]) (by omega) (by omega)
                      simpa [i64s, List.map_drop] using this
                    · intro h
                      rw [List.length_drop, ← HNY.out]
                      exact cutA_none (n := ny) (fun h => by cases h) h
                    · rw [← HP.out, List.append_assoc, runs_cons, ← HK.out, ← HR.out, ← HL.out]
              · have hxb : (x == 0) = false := by simpa using hx0
                have hr : Hd (R = (x, 1) :: sixes (k - 1) (k - 1)) := ⟨by rw [HR.out]; unfold rowOf; rw [if_neg hx0]⟩
                have hl : Hd (L = 1 + sixed (k - 1) (k - 1)) := ⟨by rw [HL.out]; unfold Runs.rowLen; rw [if_neg hx0]⟩
                obtain ⟨A5, hA5⟩ : ∃ A5, A5 = cutA (some ⟨a, o1, none⟩) c1 1 1 := ⟨_, rfl⟩
                have hcutl : ∀ W : World, (Instr.slice 70 (.slice (some ⟨a, o1, none⟩) ny c1) (some (.int .i64 1)) none none).run Try.prog W = .ok (.slice A5 (ny - 1) (c1 - 1)) W := by
                  rw [hA5]
                  exact run_cut_from (P := Try.prog) 70 3 .i64 Try.underlying70 hj0 1 hj2 (some ⟨a, o1, none⟩) ny c1 1 (by omega)
                have HY5 : Hd (Sl wo A5 (i64s ((x :: t).drop 1)) p) := ⟨by
                  have := HY.out.cut (k := 1) (c := c1) (n := ny) (by rw [HNY.out]; simp [i64s]) (by omega) (by omega)
                  rw [hA5]
                  simpa [i64s, List.map_drop] using this⟩
                have HN5 : Hd (A5 = none → ny - 1 = 0 ∧ c1 - 1 = 0) := ⟨fun h => cutA_none (fun h => by cases h) (hA5 ▸ h)⟩
                clear hA5
                go_wp2_with (at_builtin; refine wpList_append_sl rfl (.tmp 79) (.tmp 84) 181 rfl 187 i0 (.agg #[.int .i64 0, .int .i64 0]) 2 16 Try.underlying181 hi0 hz0 hz1 hz2 rfl (by decide) (.slice A' m d) m _ rfl (by exact HOc.out.alloc _) (some ⟨wc.heap.size, 0, none⟩) 1 1 [.int .i64 x, .int .i64 1] (some wc.heap.size) rfl rfl (by exact sl_of_blk (blk_new _ _)) (by intro h; cases h) (by intro u hu; simp at hu; rcases hu with rfl | rfl <;> rfl) (by unfold maxLen; omega) (by omega) ?_; intro A3 d3 w3 hown' hgrow haft; have O3 := Hd.mk hown'; have G3 := Hd.mk hgrow; have F3 := Hd.mk haft; clear hown' hgrow haft)
                have f161 := fun w => (kf 2 3 6 w).1
                have f162 := fun w => (kf 2 3 6 w).2
                have HF3 : Hd (Fr wo w3 []) := ⟨(HFc.out.alloc _).grown G3.out (fun y hy => .inr (HB.out y hy))⟩
                have HB3 : Hd (∀ y, (Value.slice A3 (m + 1) d3).ownBlock = some y → wo.heap.size ≤ y) := ⟨own_new HB.out HFc.out.size F3.out⟩
                go_loopg [0, 6, 7] k (fun kq lv sv kv wr => ∃ (D j : Nat) (A6 : Option Addr) (n6 c6 : Nat) (A7 : Option Addr) (m7 d7 : Nat) (P7 : List (Int × Int)), lv = .slice A6 n6 c6 ∧ sv = .slice A7 m7 d7 ∧ kv = .int .i64 (j : Nat) ∧ j + 1 ≤ kq ∧ D + j = k ∧ n6 + D = ny ∧ c6 + D = c1 ∧ m7 ≤ m + D ∧ Hd (D + sixed j j = L) ∧ Hd (P7 ++ sixes j j = P ++ R) ∧ Hd (Sl wo A6 (i64s ((x :: t).drop D)) p) ∧ Hd (A6 = none → n6 = 0 ∧ c6 = 0) ∧
                  Hd (wr.ownsRow 0 187 2 (.slice A7 m7 d7) m7 (cells P7)) ∧ Hd (∀ y, (Value.slice A7 m7 d7).ownBlock = some y → wo.heap.size ≤ y) ∧ Hd (Fr wo wr []))
                case atStart => exact ⟨1, k - 1, A5, ny - 1, c1 - 1, A3, m + 1, d3, P ++ [(x, 1)], rfl, rfl, by go_num, by omega, by omega, by omega, by omega, by omega, ⟨hl.out.symm⟩, ⟨by rw [hr.out, List.append_assoc]; rfl⟩, HY5, HN5, ⟨by rw [cells_app]; exact O3.out⟩, HB3, HF3⟩
                case round =>
                  clear HF3 HB3 O3 G3 F3 HY5 HN5 HOc HFc d0 hcutl
                  obtain ⟨D, j, A6, n6, c6, A7, m7, d7, P7, rfl, rfl, rfl, hjk, hDk, hn6, hc6, hm7, HL7, HP7, HY6, HN6, HO7, HB7, HF7⟩ := hrel
                  by_cases h3 : 3 ≤ j
                  · go_wp2_with (fail)
                    refine (kinds_16 wr).mono ?_
                    rintro e w2 ⟨rfl, g1⟩
                    have G2 := Hd.mk g1
                    clear g1
                    go_wp2_with (fail)
                    refine (kinds_16 w2).mono ?_
                    rintro e w8 ⟨rfl, g1⟩
                    have HF8 := Hd.mk ((HF7.out.trans G2.out (by simp)).trans g1 (by simp))
                    have HO8 := Hd.mk (own_frame (own_frame HO7.out G2.out (by simp)) g1 (by simp))
                    clear g1 G2
                    by_cases h6 : 6 < j
                    · skip
                      obtain ⟨A9, hA9⟩ : ∃ A9, A9 = cutA A6 c6 6 1 := ⟨_, rfl⟩
                      have hcutl : ∀ W : World, (Instr.slice 70 (.slice A6 n6 c6) (some (.int .i64 6)) none none).run Try.prog W = .ok (.slice A9 (n6 - 6) (c6 - 6)) W := by
                        rw [hA9]
                        exact run_cut_from (P := Try.prog) 70 3 .i64 Try.underlying70 hj0 1 hj2 A6 n6 c6 6 (by omega)
                      have HY9 : Hd (Sl wo A9 (i64s ((x :: t).drop (D + 6))) p) := ⟨by
                        have := HY6.out.cut (k := 6) (c := c6) (n := n6) (by simp only [i64s_length, List.length_drop, ← HNY.out]; omega) (by omega) (by omega)
                        rw [hA9]
                        simpa [i64s, List.map_drop, List.drop_drop] using this⟩
                      have HN9 : Hd (A9 = none → n6 - 6 = 0 ∧ c6 - 6 = 0) := ⟨fun h => cutA_none HN6.out (hA9 ▸ h)⟩
                      clear hA9
                      go_wp2_with (at_builtin; refine wpList_append_sl rfl (.tmp 98) (.tmp 101) 181 rfl 187 i0 (.agg #[.int .i64 0, .int .i64 0]) 2 16 Try.underlying181 hi0 hz0 hz1 hz2 rfl (by decide) (.slice A7 m7 d7) m7 _ rfl (by exact HO8.out.alloc _) (some ⟨w8.heap.size, 0, none⟩) 1 1 [.int .i64 16, .int .i64 6] (some w8.heap.size) rfl rfl (by exact sl_of_blk (blk_new _ _)) (by intro h; cases h) (by intro u hu; simp at hu; rcases hu with rfl | rfl <;> rfl) (by unfold maxLen; omega) (by omega) ?_; intro A3 d3 w3 hown' hgrow haft; have O3 := Hd.mk hown'; have G3 := Hd.mk hgrow; have F3 := Hd.mk haft; clear hown' hgrow haft)
                      go_wp2
                      go_roundg (gk - 1)
                      case measure => omega
                      case rel =>
                        refine ⟨D + 6, j - 6, A9, n6 - 6, c6 - 6, A3, m7 + 1, d3, P7 ++ [(16, 6)], rfl, rfl, by go_num, by omega, by omega, by omega, by omega, by omega, ⟨?_⟩, ⟨?_⟩, HY9, HN9, ⟨by rw [cells_app]; exact O3.out⟩, ⟨own_new HB7.out HF8.out.size F3.out⟩, ⟨(HF8.out.alloc _).grown G3.out (fun y hy => .inr (HB7.out y hy))⟩⟩
                        · have := HL7.out; rw [sixed_step h3, show min j 6 = 6 from by omega] at this; omega
                        · rw [← HP7.out, sixes_step h3, show min j 6 = 6 from by omega, List.append_assoc]
                          rfl
                    · skip
                      obtain ⟨A9, hA9⟩ : ∃ A9, A9 = cutA A6 c6 j 1 := ⟨_, rfl⟩
                      have hcutl : ∀ W : World, (Instr.slice 70 (.slice A6 n6 c6) (some (.int .i64 (j : Nat))) none none).run Try.prog W = .ok (.slice A9 (n6 - j) (c6 - j)) W := by
                        rw [hA9]
                        exact run_cut_from (P := Try.prog) 70 3 .i64 Try.underlying70 hj0 1 hj2 A6 n6 c6 j (by omega)
                      have HY9 : Hd (Sl wo A9 (i64s ((x :: t).drop (D + j))) p) := ⟨by
                        have := HY6.out.cut (k := j) (c := c6) (n := n6) (by simp only [i64s_length, List.length_drop, ← HNY.out]; omega) (by omega) (by omega)
                        rw [hA9]
                        simpa [i64s, List.map_drop, List.drop_drop] using this⟩
                      have HN9 : Hd (A9 = none → n6 - j = 0 ∧ c6 - j = 0) := ⟨fun h => cutA_none HN6.out (hA9 ▸ h)⟩
                      clear hA9
                      go_wp2_with (at_builtin; refine wpList_append_sl rfl (.tmp 98) (.tmp 101) 181 rfl 187 i0 (.agg #[.int .i64 0, .int .i64 0]) 2 16 Try.underlying181 hi0 hz0 hz1 hz2 rfl (by decide) (.slice A7 m7 d7) m7 _ rfl (by exact HO8.out.alloc _) (some ⟨w8.heap.size, 0, none⟩) 1 1 [.int .i64 16, .int .i64 (j : Nat)] (some w8.heap.size) rfl rfl (by exact sl_of_blk (blk_new _ _)) (by intro h; cases h) (by intro u hu; simp at hu; rcases hu with rfl | rfl <;> rfl) (by unfold maxLen; omega) (by omega) ?_; intro A3 d3 w3 hown' hgrow haft; have O3 := Hd.mk hown'; have G3 := Hd.mk hgrow; have F3 := Hd.mk haft; clear hown' hgrow haft)
                      go_wp2
                      go_roundg (gk - 1)
                      case measure => omega
                      case rel =>
                        refine ⟨D + j, j - j, A9, n6 - j, c6 - j, A3, m7 + 1, d3, P7 ++ [(16, (j : Int))], rfl, rfl, by go_num, by omega, by omega, by omega, by omega, by omega, ⟨?_⟩, ⟨?_⟩, HY9, HN9, ⟨by rw [cells_app]; exact O3.out⟩, ⟨own_new HB7.out HF8.out.size F3.out⟩, ⟨(HF8.out.alloc _).grown G3.out (fun y hy => .inr (HB7.out y hy))⟩⟩
                        · have := HL7.out; rw [sixed_step h3, show min j 6 = j from by omega] at this; omega
                        · rw [← HP7.out, sixes_step h3, show min j 6 = j from by omega, List.append_assoc]
                          rfl
                  · have hL7 : D = L := by have := HL7.out; rw [sixed_end (by omega)] at this; omega
                    subst hL7
                    go_wp2_with (fail)
                    refine (kinds_16 wr).mono ?_
                    rintro e w2 ⟨rfl, g1⟩
                    have HF8 := Hd.mk (HF7.out.trans g1 (by simp))
                    have HO8 := Hd.mk (own_frame HO7.out g1 (by simp))
                    clear g1
                    go_wp2
                    go_roundg (gx - D)
                    case measure => have := HI.out; omega
                    case rel =>
                      refine ⟨(x :: t).drop D, A6, c6, A7, m7, d7, P7, by rw [List.length_drop, ← HNY.out, show ny - D = n6 from by omega], rfl, by rw [List.length_drop, ← HNY.out, HI.out], by rw [List.length_drop, ← HNY.out]; omega, by rw [List.length_drop, ← HNY.out]; omega, HY6, ⟨?_⟩, ⟨?_⟩, HO8, HB7, HF8⟩
                      · intro h
                        rw [List.length_drop, ← HNY.out]
                        have := HN6.out h
                        omega
                      · have := HP7.out
                        rw [sixes_end (by omega), List.append_nil] at this
                        rw [← HP.out, this, List.append_assoc, runs_cons, ← HK.out, ← HR.out, ← HL.out]
end Go.Proofs.Ytkdgfioigkijgaa.Head
/- Runs as lengths: the document's Lens and the program's. Conditions: none but what memory bounds. -/
set_option linter.unusedVariables false
set_option linter.unusedSimpArgs false
set_option maxRecDepth 100000
namespace Go.Proofs.Ytkdgfioigkijgaa.Head
open Go.RowKit Go.Proofs.Ytkdgfioigkijgaa.Lib Go.Proofs.Ytkdgfioigkijgaa.Ints Go.Proofs.Ytkdgfioigkijgaa.Runs

def leastN (s : Int) : Int := if s < 16 then 1 else if s = 16 then 3 else if s = 17 then 3 else 11
def mostN (s : Int) : Int := if s < 16 then 1 else if s = 16 then 6 else if s = 17 then 10 else 138
theorem leastN_pos (s : Int) : 1 ≤ leastN s := by unfold leastN; split <;> (try split) <;> (try split) <;> omega
theorem mostN_le (s : Int) : mostN s ≤ 138 := by unfold mostN; split <;> (try split) <;> (try split) <;> omega
def okRun (out : List Int) (s k : Int) : Prop := 0 ≤ s ∧ s ≤ 18 ∧ leastN s ≤ k ∧ k ≤ mostN s ∧ ¬ (s = 16 ∧ out.length = 0) ∧ (out.length : Int) + k ≤ 320
instance (out : List Int) (s k : Int) : Decidable (okRun out s k) := by unfold okRun; exact inferInstance
theorem kinds_low (w : World) (s : Int) (h : s < 16) : Calls Try.prog 95 #[.int .i64 s] w fun e w' => e = .returned (.agg #[.int .i64 0, .int .i64 1, .int .i64 1]) ∧ Fr w w' [] := by
  go_enter Try.func95, Try.ntmps95
  go_wp2
  exact bodyPost_ret (v := .agg #[.int .i64 0, .int .i64 1, .int .i64 1]) (by simp [results, Try.results95, go_sem]) rfl ⟨rfl, ((Fr.refl _ _).alloc _).alloc _⟩
end Go.Proofs.Ytkdgfioigkijgaa.Head
/- Chapter 08, plain: what a head is told by. No condition. -/
set_option linter.unusedVariables false
set_option linter.unusedSimpArgs false
set_option maxRecDepth 100000
namespace Go.Proofs.Ytkdgfioigkijgaa.Head
open Go.RowKit Go.Proofs.Ytkdgfioigkijgaa.Lib Go.Proofs.Ytkdgfioigkijgaa.Ints Go.Proofs.Ytkdgfioigkijgaa.Runs
/-- how many are left where the noughts at the end are cut off -/
def cutN (l : List Int) (least : Nat) : Nat → Nat
  | 0 => 0
  | n + 1 => if least < n + 1 ∧ l.getD n 0 = 0 then cutN l least n else n + 1
def cutL (l : List Int) (least : Nat) : List Int := l.take (cutN l least l.length)
theorem cutN_le (l : List Int) (least : Nat) : ∀ n, cutN l least n ≤ n
  | 0 => Nat.le_refl 0
  | n + 1 => by
    rw [cutN]
    split
    · have := cutN_le l least n; omega
    · exact Nat.le_refl _
theorem cutN_ge (l : List Int) (least : Nat) : ∀ n, least ≤ n → least ≤ cutN l least n
  | 0, h => by simpa [cutN] using h
  | n + 1, h => by
    rw [cutN]
    split
    · rename_i h1
      exact cutN_ge l least n (by omega)
    · exact h
theorem cutL_len (l : List Int) (least : Nat) : (cutL l least).length = cutN l least l.length := by
  have := cutN_le l least l.length
  rw [cutL, List.length_take]
  omega
def distL (dist : List Int) : List Int := if (cutL dist 1).length = 0 then [0] else cutL dist 1
def allL (lit dist : List Int) : List Int := cutL lit 257 ++ distL dist
def okH (lit dist : List Int) : Bool := decide (257 ≤ lit.length ∧ lit.length ≤ 286 ∧ dist.length ≤ 30 ∧ Code.check lit = 0 ∧ Code.check dist = 0 ∧ lit.getD 256 0 ≠ 0)
def freqF (rs : List (Int × Int)) (i : Nat) : Nat := rs.countP fun r => decide (r.1 = (i : Int))
def freqOf (rs : List (Int × Int)) : List Int := (List.range 19).map fun i => (freqF rs i : Int)
def hlens (rs : List (Int × Int)) : List Int := (Lens.lensN 7 (freqOf rs)).1
def ord : List Nat := [16, 17, 18, 0, 8, 7, 9, 6, 10, 5, 11, 4, 12, 3, 13, 2, 14, 1, 15]
def toldN (l : List Int) : Nat → Nat
  | 0 => 4
  | j + 1 => if 0 < l.getD (ord.getD j 0) 0 then max (toldN l j) (j + 1) else toldN l j
theorem toldN_ge (l : List Int) : ∀ j, 4 ≤ toldN l j
  | 0 => Nat.le_refl 4
  | j + 1 => by
    rw [toldN]
    have := toldN_ge l j
    split <;> omega
theorem toldN_le (l : List Int) : ∀ j, toldN l j ≤ max 4 j
  | 0 => Nat.le_refl 4
  | j + 1 => by
    rw [toldN]
    have := toldN_le l j
    split <;> omega
def kbits (s : Int) : Int := if s < 16 then 0 else if s = 16 then 2 else if s = 17 then 3 else 7
/-- a run that may be -/
def RunB (r : Int × Int) : Prop := 0 ≤ r.1 ∧ r.1 ≤ 18 ∧ leastN r.1 ≤ r.2 ∧ r.2 ≤ mostN r.1 ∧ r.2 - leastN r.1 < 2 ^ (kbits r.1).toNat
theorem runB_of (s c L M B : Int) (h0 : 0 ≤ s) (h1 : s ≤ 18) (hL : leastN s = L) (hM : mostN s = M) (hB : (2 : Int) ^ (kbits s).toNat = B) (h2 : L ≤ c) (h3 : c ≤ M) (h4 : c - L < B) : RunB (s, c) :=
  ⟨h0, h1, by simp only [hL]; exact h2, by simp only [hM]; exact h3, by simp only [hL, hB]; exact h4⟩
theorem sixes_run : ∀ (f k : Nat), (∀ r ∈ sixes f k, RunB r) ∧ (sixes f k).length ≤ sixed f k
  | 0, k => ⟨fun r h => by simp [sixes] at h, by simp [sixes]⟩
  | f + 1, k => by
    rw [sixes, sixed]
    by_cases h' : ¬ k < 3
    · have h : 3 ≤ k := by omega
      rw [if_neg h', if_neg h']
      obtain ⟨h1, h2⟩ := sixes_run f (k - min k 6)
      refine ⟨fun r hr => ?_, by simp only [List.length_cons]; omega⟩
      rcases List.mem_cons.1 hr with e | hr
      · subst e
        exact runB_of 16 _ 3 6 4 (by decide) (by decide) (by decide) (by decide) (by decide) (by omega) (by omega) (by omega)
      · exact h1 r hr
    · have h : k < 3 := by omega
      rw [if_pos h, if_pos h]
      exact ⟨fun r h => absurd h (by simp), Nat.zero_le _⟩
theorem row_run {v : Int} {k : Nat} (h0 : 0 ≤ v) (h1 : v ≤ 15) (hk : 1 ≤ k) : (∀ r ∈ rowOf v k, RunB r) ∧ (rowOf v k).length ≤ Runs.rowLen v k := by
  unfold rowOf Runs.rowLen
  by_cases hv : v = 0
  · subst hv
    rw [if_pos rfl, if_pos rfl]
    by_cases h11 : 11 ≤ k
    · rw [if_pos h11, if_pos h11]
      refine ⟨fun r hr => ?_, by simp only [List.length_cons, List.length_nil]; omega⟩
      rw [List.mem_singleton] at hr
      subst hr
      exact runB_of 18 _ 11 138 128 (by decide) (by decide) (by decide) (by decide) (by decide) (by omega) (by omega) (by omega)
    · rw [if_neg h11, if_neg h11]
      by_cases h3 : 3 ≤ k
      · rw [if_pos h3, if_pos h3]
        refine ⟨fun r hr => ?_, by simp only [List.length_cons, List.length_nil]; omega⟩
        rw [List.mem_singleton] at hr
        subst hr
        exact runB_of 17 _ 3 10 8 (by decide) (by decide) (by decide) (by decide) (by decide) (by omega) (by omega) (by omega)
      · rw [if_neg h3, if_neg h3]
        refine ⟨fun r hr => ?_, by simp⟩
        rw [List.mem_singleton] at hr
        subst hr
        exact runB_of 0 1 1 1 1 (by decide) (by decide) (by decide) (by decide) (by decide) (by decide) (by decide) (by decide)
  · rw [if_neg hv, if_neg hv]
    obtain ⟨h2, h3⟩ := sixes_run (k - 1) (k - 1)
    refine ⟨fun r hr => ?_, by simp only [List.length_cons]; omega⟩
    rcases List.mem_cons.1 hr with e | hr
    · subst e
      have e1 : leastN v = 1 := by unfold leastN; rw [if_pos (by omega)]
      have e2 : mostN v = 1 := by unfold mostN; rw [if_pos (by omega)]
      have e3 : kbits v = 0 := by unfold kbits; rw [if_pos (by omega)]
      exact runB_of v 1 1 1 1 h0 (by omega) e1 e2 (by rw [e3]; rfl) (by decide) (by decide) (by decide)
    · exact h2 r hr
theorem runsF_run : ∀ (f : Nat) (l : List Int), (∀ x ∈ l, 0 ≤ x ∧ x ≤ 15) → (∀ r ∈ runsF f l, RunB r) ∧ (runsF f l).length ≤ l.length
  | 0, l, _ => by cases l <;> exact ⟨fun r h => by simp [runsF] at h, by simp [runsF]⟩
  | f + 1, [], _ => ⟨fun r h => by simp [runsF] at h, by simp [runsF]⟩
  | f + 1, v :: t, h => by
    rw [runsF]
    have hv := h v (by simp)
    have hk : 1 ≤ lead v t + 1 := by omega
    obtain ⟨h1, h2⟩ := row_run hv.1 hv.2 hk
    obtain ⟨h3, h4⟩ := runsF_run f ((v :: t).drop (Runs.rowLen v (lead v t + 1))) (fun x hx => h x (List.mem_of_mem_drop hx))
    refine ⟨fun r hr => ?_, ?_⟩
    · rcases List.mem_append.1 hr with e | e
      · exact h1 r e
      · exact h3 r e
    · have := rowLen_le v hk
      have := lead_le v t
      rw [List.length_append]
      rw [List.length_drop] at h4
      simp only [List.length_cons] at h4 ⊢
      omega
theorem runs_run {l : List Int} (h : ∀ x ∈ l, 0 ≤ x ∧ x ≤ 15) : (∀ r ∈ runs l, RunB r) ∧ (runs l).length ≤ l.length := runsF_run _ l h
end Go.Proofs.Ytkdgfioigkijgaa.Head
/- Chapter 08: can, cut, order walked. No condition. -/
set_option linter.unusedVariables false
set_option linter.unusedSimpArgs false
set_option maxRecDepth 100000
namespace Go.Proofs.Ytkdgfioigkijgaa.Head
open Go.RowKit Go.Proofs.Ytkdgfioigkijgaa.Lib Go.Proofs.Ytkdgfioigkijgaa.Ints Go.Proofs.Ytkdgfioigkijgaa.Runs
theorem i64_at {w : World} {A : Option Addr} {l : List Int} {q : Option Nat} (h : Sl w A (i64s l) q) {i : Nat} (hi : i < l.length) {b off : Nat} (hA : A = some ⟨b, off, none⟩) : w.cell? ⟨b, off + i, none⟩ = some (.int .i64 (l.getD i 0)) := by
  obtain ⟨b', off', h1, _, hc⟩ := h (by rw [i64s_length]; omega)
  rw [hA] at h1
  cases h1
  rw [hc i (by rw [i64s_length]; omega), i64s_get, List.getD_eq_getElem?_getD, List.getElem?_eq_getElem hi]
  rfl
set_option maxHeartbeats 4000000 in
theorem can_any (w : World) (A B : Option Addr) (n c m d : Nat) (lit dist : List Int) (p q : Option Nat) (hX : SlArg w A n c (i64s lit) p) (hY : SlArg w B m d (i64s dist) q) (b : Bool) (hb : b = okH lit dist) :
    Calls Try.prog 102 #[.slice A n c, .slice B m d] w fun e w' => e = .returned (.bool b) ∧ Fr w w' [] := by
  have hn : lit.length = n := by have := hX.len; simpa [i64s] using this
  have hm : dist.length = m := by have := hY.len; simpa [i64s] using this
  have HX := Hd.mk hX
  have HY := Hd.mk hY
  have HB : Hd (b = decide (257 ≤ n ∧ n ≤ 286 ∧ m ≤ 30 ∧ Code.check lit = 0 ∧ Code.check dist = 0 ∧ lit.getD 256 0 ≠ 0)) := ⟨by rw [hb, ← hn, ← hm]; rfl⟩
  have hn2 := hX.le
  have hn3 := hX.max
  have hm2 := hY.le
  have hm3 := hY.max
  unfold maxLen at hn3 hm3
  clear hX hY hb
  go_enter Try.func102, Try.ntmps102
  by_cases h1 : 257 ≤ n
  · by_cases h2 : n ≤ 286
    · by_cases h3 : m ≤ 30
      · go_wp2_with (fail)
        refine (Code.check_any w A n c lit p HX.out _ rfl).mono ?_
        rintro e w1 ⟨rfl, h⟩
        have F1 := Hd.mk h
        clear h
        obtain ⟨k, hk⟩ : ∃ k, k = Code.check lit := ⟨_, rfl⟩
        rw [← hk] at HB ⊢
        have HK := Hd.mk hk
        clear hk
        by_cases h4 : k = 0
        · subst h4
          go_wp2_with (fail)
          refine (Code.check_any w1 B m d dist q (HY.out.frame F1.out (by simp)) _ rfl).mono ?_
          rintro e w2 ⟨rfl, h⟩
          have F2 := Hd.mk (F1.out.trans h (by simp))
          clear h
          obtain ⟨k2, hk⟩ : ∃ k, k = Code.check dist := ⟨_, rfl⟩
          rw [← hk] at HB ⊢
          clear hk
          by_cases h5 : k2 = 0
          · subst h5
            obtain ⟨bx, ox, rfl, _, _⟩ := HX.out.sl (by rw [i64s_length]; omega)
            have k0 := i64_at (HX.out.sl.frame F2.out (by simp)) (i := 256) (by omega) rfl
            obtain ⟨z, hz⟩ : ∃ z, z = lit.getD 256 0 := ⟨_, rfl⟩
            rw [← hz] at HB k0
            clear hz
            by_cases h6 : z = 0
            · subst h6
              obtain rfl : b = false := by rw [HB.out]; exact decide_eq_false (fun h => h.2.2.2.2.2 rfl)
              go_wp2
              go_ret
              exact ⟨rfl, F2.out⟩
            · obtain rfl : b = true := by rw [HB.out]; simp [h1, h2, h3, h6]
              have hne : (z != 0) = true := by simpa using h6
              go_wp2
              go_ret
              exact ⟨rfl, F2.out⟩
          · have hne : (k2 == 0) = false := by simpa using h5
            obtain rfl : b = false := by rw [HB.out]; exact decide_eq_false (fun h => h5 h.2.2.2.2.1)
            go_wp2
            go_ret
            exact ⟨rfl, F2.out⟩
        · have hne : (k == 0) = false := by simpa using h4
          obtain rfl : b = false := by rw [HB.out]; exact decide_eq_false (fun h => h4 h.2.2.2.1)
          go_wp2
          go_ret
          exact ⟨rfl, F1.out⟩
      · obtain rfl : b = false := by rw [HB.out]; exact decide_eq_false (fun h => h3 h.2.2.1)
        go_wp2
        go_ret
        exact ⟨rfl, Fr.refl _ _⟩
    · obtain rfl : b = false := by rw [HB.out]; exact decide_eq_false (fun h => h2 h.2.1)
      go_wp2
      go_ret
      exact ⟨rfl, Fr.refl _ _⟩
  · obtain rfl : b = false := by rw [HB.out]; exact decide_eq_false (fun h => h1 h.1)
    go_wp2
    go_ret
    exact ⟨rfl, Fr.refl _ _⟩
theorem run_cut_toE {P : Program} (t e : TypeId) (kh : IntKind) {i : TypeInfo} (ht : P.underlying t = some (.slice e)) (hi : P.info? e = some i) (size : Nat) (hsz : i.size = size) (A : Option Addr) (n c m : Nat) (hA : A = none → c = 0) (h2 : m ≤ c) :
    ∀ W : World, (Instr.slice t (.slice A n c) none (some (.int kh (m : Nat))) none).run P W = .ok (.slice A m c) W := Lens.run_cut_to t e kh ht hi size hsz A n c m hA h2
set_option maxHeartbeats 4000000 in
theorem cut_any (w : World) (A : Option Addr) (n c : Nat) (l : List Int) (p : Option Nat) (hX : SlArg w A n c (i64s l) p) (least : Nat) (hl : least ≤ 1000) (k : Nat) (hk : k = cutN l least n) :
    Calls Try.prog 103 #[.slice A n c, .int .i64 (least : Nat)] w fun e w' => e = .returned (.slice A k c) ∧ w = w' := by
  obtain ⟨j0, hj0, hj1, hj2, hj3⟩ := info_parts infoI64
  have hn : l.length = n := by have := hX.len; simpa [i64s] using this
  have HX := Hd.mk hX
  have HK := Hd.mk hk
  have hn2 := hX.le
  have hn3 := hX.max
  have HA := Hd.mk hX.nil
  unfold maxLen at hn3
  clear hX hk
  go_enter Try.func103, Try.ntmps103
  go_wp2
  go_loopg [0] n (fun kq av wr => ∃ j : Nat, av = .slice A j c ∧ j = kq ∧ j ≤ n ∧ Hd (cutN l least j = k) ∧ w = wr)
  case atStart => exact ⟨n, rfl, rfl, Nat.le_refl _, ⟨HK.out.symm⟩, rfl⟩
  case round =>
    obtain ⟨j, rfl, rfl, hj, HC, rfl⟩ := hrel
    by_cases h1 : least < j
    · obtain ⟨i, rfl⟩ : ∃ i, j = i + 1 := ⟨j - 1, by omega⟩
      obtain ⟨bx, ox, rfl, _, _⟩ := HX.out.sl (by rw [i64s_length]; omega)
      have k0 := i64_at HX.out.sl (i := i) (by omega) rfl
      obtain ⟨z, hz⟩ : ∃ z, z = l.getD i 0 := ⟨_, rfl⟩
      have HC2 : Hd ((if least < i + 1 ∧ z = 0 then cutN l least i else i + 1) = k) := ⟨by have := HC.out; rw [cutN, ← hz] at this; exact this⟩
      rw [← hz] at k0
      clear hz
      by_cases h2 : z = 0
      · subst h2
        have HC3 : Hd (cutN l least i = k) := ⟨by have := HC2.out; rwa [if_pos ⟨h1, rfl⟩] at this⟩
        have hs := run_cut_toE (P := Try.prog) 70 3 .i64 Try.underlying70 hj0 1 hj2 (some ⟨bx, ox, none⟩) (i + 1) c i (by intro h; cases h) (by omega)
        clear HC HC2
        go_wp2
        go_roundg i
        case measure => omega
        case rel => exact ⟨i, rfl, rfl, by omega, HC3, rfl⟩
      · have hne : (z == 0) = false := by simpa using h2
        obtain rfl : k = i + 1 := by have := HC2.out; rw [if_neg (fun h => h2 h.2)] at this; exact this.symm
        go_wp2
        go_ret
        exact ⟨rfl, rfl⟩
    · obtain rfl : k = j := by
        have := HC.out
        cases j with
        | zero => simpa [cutN] using this.symm
        | succ i => rw [cutN, if_neg (fun h => h1 h.1)] at this; exact this.symm
      go_wp2
      go_ret
      exact ⟨rfl, rfl⟩
end Go.Proofs.Ytkdgfioigkijgaa.Head
/- Chapter 08: newPlan walked. No condition. -/
set_option linter.unusedVariables false
set_option linter.unusedSimpArgs false
set_option maxRecDepth 100000
namespace Go.Proofs.Ytkdgfioigkijgaa.Head
open Go.RowKit Go.Proofs.Ytkdgfioigkijgaa.Lib Go.Proofs.Ytkdgfioigkijgaa.Ints Go.Proofs.Ytkdgfioigkijgaa.Runs
def ordC : Array Value := (i64s (ord.map fun (i : Nat) => (i : Int))).toArray
theorem ordInfo : (Try.prog.info? 191).map (·.size) = some ordC.size := by kernel_rfl
set_option maxHeartbeats 2000000 in
theorem order_any (w : World) : Calls Try.prog 96 #[] w fun e w' => e = .returned (.agg ordC) ∧ Fr w w' [] := by
  go_enter Try.func96, Try.ntmps96
  go_upto_region 1 with (fail)
  go_wp2_with (refine wpList_store_row rfl 191 _ _ rfl w.heap.size ordC rfl rfl 191 _ (by exact blk_new w _) (by kernel_rfl) (by kernel_rfl) (by kernel_rfl) ?_)
  refine bodyPost_ret (results_cell_row rfl _ _ w.heap.size 191 _ _ _ rfl (setRow_heap _ _ _ _ _ _ (blk_new w _)) Try.underlying191 rfl ordInfo) rfl ?_
  exact ⟨rfl, Code.Fr.setRow ((Fr.refl w []).alloc _) _ (.inr (Nat.le_refl _))⟩
theorem ordIdx : ∀ i : Nat, i < 19 → ∀ W : World, (Instr.index 191 (.agg ordC) (.int .i64 (i : Nat))).run Try.prog W = .ok (.int .i64 ((ord.getD i 0 : Nat) : Int)) W
  | 0, _, W => by kernel_rfl
  | 1, _, W => by kernel_rfl
  | 2, _, W => by kernel_rfl
  | 3, _, W => by kernel_rfl
  | 4, _, W => by kernel_rfl
  | 5, _, W => by kernel_rfl
  | 6, _, W => by kernel_rfl
  | 7, _, W => by kernel_rfl
  | 8, _, W => by kernel_rfl
  | 9, _, W => by kernel_rfl
  | 10, _, W => by kernel_rfl
  | 11, _, W => by kernel_rfl
  | 12, _, W => by kernel_rfl
  | 13, _, W => by kernel_rfl
  | 14, _, W => by kernel_rfl
  | 15, _, W => by kernel_rfl
  | 16, _, W => by kernel_rfl
  | 17, _, W => by kernel_rfl
  | 18, _, W => by kernel_rfl
  | k + 19, h, _ => absurd h (by omega)
theorem ord_lt : ∀ i, i < 19 → ord.getD i 0 < 19 := by decide
/-! ### the counts -/
theorem freqOf_len (rs : List (Int × Int)) : (freqOf rs).length = 19 := by simp [freqOf]
theorem freqF_snoc (rs : List (Int × Int)) (r : Int × Int) (i : Nat) : freqF (rs ++ [r]) i = freqF rs i + if r.1 = (i : Int) then 1 else 0 := by
  unfold freqF
  rw [List.countP_append, List.countP_cons, List.countP_nil]
  by_cases h : r.1 = (i : Int)
  · simp [h]
  · simp [h]
theorem freqF_le (rs : List (Int × Int)) (i : Nat) : freqF rs i ≤ rs.length := List.countP_le_length
theorem freq_get (rs : List (Int × Int)) {s : Nat} (h : s < 19) : (i64s (freqOf rs))[s]? = some (.int .i64 (freqF rs s : Nat)) := by
  rw [i64s_get]; simp [freqOf, h]
theorem freq_set (rs : List (Int × Int)) (r : Int × Int) {s : Nat} (h : s < 19) (hr : r.1 = (s : Int)) : (i64s (freqOf rs)).toArray.setIfInBounds s (.int .i64 ((freqF rs s : Nat) + 1 : Int)) = (i64s (freqOf (rs ++ [r]))).toArray := by
  apply Array.ext_getElem?
  intro k
  rw [Array.getElem?_setIfInBounds]
  simp only [List.getElem?_toArray]
  by_cases hk : k < 19
  · rw [freq_get _ hk]
    by_cases e : s = k
    · subst e
      rw [if_pos rfl, if_pos (by simp [i64s, freqOf]; exact h), freq_get _ h, freqF_snoc, if_pos hr]
      rfl
    · rw [if_neg e, freq_get _ hk, freqF_snoc, if_neg (by rw [hr]; omega), Nat.add_zero]
  · rw [if_neg (by omega)]
    rw [List.getElem?_eq_none (by simp [i64s, freqOf]; omega), List.getElem?_eq_none (by simp [i64s, freqOf]; omega)]
theorem freq_zero : (#[Value.int .i64 0, .int .i64 0, .int .i64 0, .int .i64 0, .int .i64 0, .int .i64 0, .int .i64 0, .int .i64 0, .int .i64 0, .int .i64 0, .int .i64 0, .int .i64 0, .int .i64 0, .int .i64 0, .int .i64 0, .int .i64 0, .int .i64 0, .int .i64 0, .int .i64 0] : Array Value) = (i64s (freqOf [])).toArray := by kernel_rfl
theorem freq_fine {rs : List (Int × Int)} (h : rs.length ≤ 1000) : Lens.cn (freqOf rs) = 0 := by
  unfold Lens.cn
  rw [if_neg (by rw [freqOf_len]; decide), Lens.out_false, if_neg (by decide)]
  intro i hi
  have h1 := freqF_le rs i
  simp only [freqOf, List.getElem_map, List.getElem_range]
  omega
theorem hlens_eq {rs : List (Int × Int)} (h : rs.length ≤ 1000) : Lens.lensN 7 (freqOf rs) = ((List.range 19).map fun s => (Lens.lenOf 7 (freqOf rs) s : Int), 0) ∧ hlens rs = (List.range 19).map fun s => (Lens.lenOf 7 (freqOf rs) s : Int) := by
  have hl : (Lens.lvs (freqOf rs)).length ≤ 19 := by have := Lens.lvs_le (freqOf rs); rw [freqOf_len] at this; exact this
  have e : Lens.lensN 7 (freqOf rs) = ((List.range 19).map fun s => (Lens.lenOf 7 (freqOf rs) s : Int), 0) := by
    unfold Lens.lensN
    rw [if_neg (by decide), if_neg (by rw [freq_fine h]; decide), if_neg (by have : 2 ^ (7 : Int).toNat = 128 := rfl; omega), freqOf_len]
    rfl
  exact ⟨e, by unfold hlens; rw [e]⟩
theorem hlens_len {rs : List (Int × Int)} (h : rs.length ≤ 1000) : (hlens rs).length = 19 := by rw [(hlens_eq h).2]; simp
theorem hlens_check {rs : List (Int × Int)} (h : rs.length ≤ 1000) : Code.check (hlens rs) = 0 := by
  rw [(hlens_eq h).2]
  have := Lens.lens_check (fs := freqOf rs) (limit := 7) (by decide) (by decide) (by have := Lens.lvs_le (freqOf rs); rw [freqOf_len] at this; have e : 2 ^ 7 = 128 := rfl; omega) (by rw [freqOf_len]; decide)
  rwa [freqOf_len] at this
theorem hlens_le {rs : List (Int × Int)} (h : rs.length ≤ 1000) (s : Nat) : 0 ≤ (hlens rs).getD s 0 ∧ (hlens rs).getD s 0 ≤ 7 := by
  rw [(hlens_eq h).2, List.getD_eq_getElem?_getD]
  by_cases hs : s < 19
  · simp only [List.getElem?_map, List.getElem?_range hs, Option.map_some, Option.getD_some]
    have := Lens.lenOf_le (fs := freqOf rs) (limit := 7) (by decide) (by have := Lens.lvs_le (freqOf rs); rw [freqOf_len] at this; have e : 2 ^ 7 = 128 := rfl; omega) s
    omega
  · rw [List.getElem?_eq_none (by simp; omega)]; simp
/-! ### lengths that may be told -/
theorem okH_parts {lit dist : List Int} (h : okH lit dist = true) : 257 ≤ lit.length ∧ lit.length ≤ 286 ∧ dist.length ≤ 30 ∧ Code.check lit = 0 ∧ Code.check dist = 0 ∧ lit.getD 256 0 ≠ 0 := of_decide_eq_true h
theorem check_vals {l : List Int} (h : Code.check l = 0) : ∀ x ∈ l, 0 ≤ x ∧ x ≤ 15 := (Code.bad_false (Code.check_zero h).1).2
theorem distL_len (dist : List Int) (h : dist.length ≤ 30) : 1 ≤ (distL dist).length ∧ (distL dist).length ≤ 30 := by
  unfold distL
  have := cutN_le dist 1 dist.length
  split
  · simp
  · rename_i h1
    rw [cutL_len] at h1 ⊢
    omega
theorem allL_ok {lit dist : List Int} (h : okH lit dist = true) : (∀ x ∈ allL lit dist, 0 ≤ x ∧ x ≤ 15) ∧ (allL lit dist).length ≤ 316 ∧ (cutL lit 257).length ≤ 286 ∧ 257 ≤ (cutL lit 257).length := by
  obtain ⟨h1, h2, h3, h4, h5, h6⟩ := okH_parts h
  have a1 := cutN_le lit 257 lit.length
  have a2 := cutN_ge lit 257 lit.length h1
  have a3 := distL_len dist h3
  refine ⟨fun x hx => ?_, ?_, ?_, ?_⟩
  · rcases List.mem_append.1 hx with e | e
    · exact check_vals h4 x (List.mem_of_mem_take e)
    · unfold distL at e
      split at e
      · rw [List.mem_singleton] at e; subst e; exact ⟨by decide, by decide⟩
      · exact check_vals h5 x (List.mem_of_mem_take e)
  · unfold allL; rw [List.length_append, cutL_len]; omega
  · rw [cutL_len]; omega
  · rw [cutL_len]; omega
theorem bad_of {l : List Int} (h1 : l.length ≤ 320) (h2 : ∀ x ∈ l, 0 ≤ x ∧ x ≤ 15) : bad l = false := by
  unfold bad
  rw [decide_eq_false (by omega), out_false (fun i hi => h2 _ (List.getElem_mem hi))]
  rfl
def hruns (lit dist : List Int) : List (Int × Int) := runs (allL lit dist)
theorem hruns_ok {lit dist : List Int} (h : okH lit dist = true) : (∀ r ∈ hruns lit dist, RunB r) ∧ (hruns lit dist).length ≤ 316 ∧ bad (allL lit dist) = false := by
  obtain ⟨h1, h2, _⟩ := allL_ok h
  obtain ⟨h3, h4⟩ := runs_run h1
  exact ⟨h3, Nat.le_trans h4 h2, bad_of (by omega) h1⟩
end Go.Proofs.Ytkdgfioigkijgaa.Head
