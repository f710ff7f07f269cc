/- Two rows merged (chapter 04), as the program has it. Conditions: at most 1000 items a row. -/
import Derived.Test.YtofajcifjmhomaaLensB
import Derived.Deep.Light
import Derived.Deep.RegionHeld3
set_option linter.unusedVariables false
set_option linter.unusedSimpArgs false
set_option maxRecDepth 100000
namespace Go.Proofs.Ytofajcifjmhomaa.Lens
open Go.RowKit Go.Proofs.Ytofajcifjmhomaa.Lib Go.Proofs.Ytofajcifjmhomaa.Ints Go.Proofs.Ytofajcifjmhomaa.Sorts Go.Proofs.Ytofajcifjmhomaa.Sort Go.Proofs.Ytofajcifjmhomaa.Pm

def mgp (a b : List (T × Value)) : List (T × Value) := a.merge b (fun p q => le p.1 q.1)
theorem mgp_map (a b : List (T × Value)) : (mgp a b).map (·.1) = mg (a.map (·.1)) (b.map (·.1)) := by
  unfold mgp mg
  induction a generalizing b with
  | nil => simp
  | cons x a iha =>
    induction b with
    | nil => simp
    | cons y b ihb =>
      rw [List.cons_merge_cons, List.map_cons, List.map_cons, List.cons_merge_cons]
      by_cases h : le x.1 y.1 = true
      · rw [if_pos h, if_pos h, List.map_cons, iha (y :: b), List.map_cons]
      · rw [if_neg h, if_neg h, List.map_cons, ihb, List.map_cons]
theorem mgp_perm (a b : List (T × Value)) : (mgp a b).Perm (a ++ b) := List.merge_perm_append _
theorem mgp_a {x : T × Value} {a b : List (T × Value)} (h : ∀ y ∈ b.head?, x.1.wt ≤ y.1.wt) : mgp (x :: a) b = x :: mgp a b := by
  unfold mgp
  cases b with
  | nil => simp
  | cons y b => rw [List.cons_merge_cons, if_pos (by unfold le; simpa using h y (by simp))]
theorem mgp_b {y : T × Value} {a b : List (T × Value)} (h : ∀ x ∈ a.head?, ¬ x.1.wt ≤ y.1.wt) : mgp a (y :: b) = y :: mgp a b := by
  unfold mgp
  cases a with
  | nil => simp
  | cons x a => rw [List.cons_merge_cons, if_neg (by unfold le; simpa using h x (by simp))]
/-- elements of three cells: the rest of a slice -/
theorem Sl.cut3 {w : World} {A : Option Addr} {ps : List (T × Value)} {q : Option Nat} {n c : Nat} (h : Sl w A (encs ps) q) (hl : ps.length = n) (hnc : n ≤ c) (hk : 0 < n) : Sl w (cutA A c 1 3) (encs (ps.drop 1)) q := by
  intro hx
  rw [encs_len, List.length_drop] at hx
  obtain ⟨b, off, rfl, hq, hc⟩ := h (by rw [encs_len]; omega)
  have e : encs (ps.drop 1) = (encs ps).drop 3 := by
    cases ps with
    | nil => rfl
    | cons p ps => simp [encs, enc]
  refine ⟨b, off + 3, ?_, hq, fun j hj => ?_⟩
  · unfold cutA
    rw [if_neg (by omega)]
    simp [Addr.add_lit]
  · rw [e] at hj ⊢
    rw [List.length_drop, encs_len] at hj
    rw [Nat.add_assoc, hc (3 + j) (by rw [encs_len]; omega), List.getElem?_drop]
set_option maxHeartbeats 4000000 in
theorem merged_any (w : World) (gl : Nat) (A B : Option Addr) (n c m d : Nat) (ps qs : List (T × Value)) (qa qb : Option Nat) (hn : ps.length = n) (hm : qs.length = m) (hnc : n ≤ c) (hmd : m ≤ d) (hS : Sl w A (encs ps) qa) (hT : Sl w B (encs qs) qb)
    (hok : ∀ p ∈ ps, Ok w gl p.1 p.2) (hok2 : ∀ p ∈ qs, Ok w gl p.1 p.2) (hn1 : n ≤ 1000) (hm1 : m ≤ 1000) :
    Calls Try.prog 91 #[.slice A n c, .slice B m d] w (RowPost w gl (mg (ps.map (·.1)) (qs.map (·.1)))) := by
  subst hn hm
  have HS := Hd.mk hS
  have HT := Hd.mk hT
  have HOK := Hd.mk hok
  have HOK2 := Hd.mk hok2
  clear hS hT hok hok2
  obtain ⟨i0, hi0, hz0, hz1, hz2⟩ := info_parts infoItem
  obtain ⟨N, hN⟩ : ∃ N, N = ps.length + qs.length := ⟨_, rfl⟩
  have hsum : (ps.length : Int) + (qs.length : Int) = (N : Int) := by omega
  have HN := Hd.mk hN
  have hN2 : N ≤ 2000 := by omega
  clear hN
  go_enter Try.func91, Try.ntmps91
  go_wp2_with (refine wpList_make_own _ rfl _ _ 151 rfl 0 154 i0 (.agg #[.int .i64 0, .int .i64 0, .slice none 0 0]) 3 Try.underlying151 hi0 hz0 hz1 .i64 .i64 _ N rfl rfl rfl (by rw [hz2]; omega) (by unfold maxLen; omega) (Nat.zero_le _) ?_; intro w3 hown1 hgrow1; have O0 := Hd.mk hown1; have F3 := Hd.mk ((Fr.refl w []).grown hgrow1 (by simp)); clear hown1 hgrow1)
  have B0 : Hd (∀ y, (Value.slice (some ⟨w.heap.size, 0, none⟩) 0 N).ownBlock = some y → w.heap.size ≤ y) := ⟨by intro y hy; cases hy; exact Nat.le_refl _⟩
  clear hsum
  go_loopg [0, 1, 5] (ps.length + qs.length) (fun kq av bv lv wr => ∃ (A1 : Option Addr) (n1 c1 : Nat) (B1 : Option Addr) (m1 d1 : Nat) (L1 : Option Addr) (k dl : Nat) (xs ys P : List (T × Value)), av = .slice A1 n1 c1 ∧ bv = .slice B1 m1 d1 ∧ lv = .slice L1 k dl ∧ n1 ≤ c1 ∧ m1 ≤ d1 ∧ n1 + m1 ≤ kq ∧ k + n1 + m1 ≤ 2000 ∧ Hd (xs.length = n1) ∧ Hd (ys.length = m1) ∧ Hd (P.length = k) ∧ Hd (Sl w A1 (encs xs) qa) ∧ Hd (Sl w B1 (encs ys) qb) ∧ Hd (P ++ mgp xs ys = mgp ps qs) ∧ Hd (wr.ownsRow 0 154 3 (.slice L1 k dl) k (encs P)) ∧ Hd (∀ z, (Value.slice L1 k dl).ownBlock = some z → w.heap.size ≤ z) ∧ Hd (Fr w wr []))
  case atStart => exact ⟨A, ps.length, c, B, qs.length, d, some ⟨w.heap.size, 0, none⟩, 0, N, ps, qs, [], rfl, rfl, rfl, hnc, hmd, by omega, by omega, ⟨rfl⟩, ⟨rfl⟩, ⟨rfl⟩, HS, HT, ⟨rfl⟩, O0, B0, F3⟩
  case round =>
    obtain ⟨A1, n1, c1, B1, m1, d1, L1, k, dl, xs, ys, P, rfl, rfl, rfl, hnc1, hmd1, hk, hkl, HLX, HLY, HLP, HSX, HSY, HM, HW, HB, HF⟩ := hrel
    have HPM : Hd (∀ z ∈ P ++ mgp xs ys, Ok w gl z.1 z.2) := ⟨fun z hz => by
      rw [HM.out] at hz
      rcases List.mem_append.1 ((mgp_perm ps qs).mem_iff.1 hz) with h | h
      · exact HOK.out z h
      · exact HOK2.out z h⟩
    have HAX : Hd (∀ z ∈ xs, Ok w gl z.1 z.2) := ⟨fun z hz => HPM.out z (List.mem_append.2 (.inr ((mgp_perm xs ys).mem_iff.2 (List.mem_append.2 (.inl hz)))))⟩
    have HAY : Hd (∀ z ∈ ys, Ok w gl z.1 z.2) := ⟨fun z hz => HPM.out z (List.mem_append.2 (.inr ((mgp_perm xs ys).mem_iff.2 (List.mem_append.2 (.inr hz)))))⟩
    by_cases hx0 : 0 < n1
    · by_cases hy0 : 0 < m1
      · have hm0 : ((m1 : Int) == 0) = false := by simp; omega
        have hxl : 0 < xs.length := by rw [HLX.out]; exact hx0
        obtain ⟨b0, o1, rfl, hqx, hax⟩ := Sl.row (enc := enc) (sz := 3) (fun _ => rfl) (HSX.out.frame HF.out (by simp)) (i := 0) hxl (by decide)
        obtain ⟨x, hxe⟩ : ∃ x, x = xs[0] := ⟨_, rfl⟩
        rw [← hxe] at hax
        have cx0 := hax 0 (by decide)
        have cx1 := hax 1 (by decide)
        have cx2 := hax 2 (by decide)
        simp only [enc, List.getElem?_cons_zero, List.getElem?_cons_succ, Nat.add_zero, Nat.zero_mul] at cx0 cx1 cx2
        have hbx : b0 < w.heap.size := by
          obtain ⟨bq, hbq, hlt⟩ := HSX.out.lt (by rw [encs_len]; omega)
          rw [hqx] at hbq
          cases hbq
          exact hlt
        have xne : Hd (b0 ∉ (Value.slice L1 k dl).ownBlock.toList) := ⟨by
          intro hm
          cases hob : (Value.slice L1 k dl).ownBlock with
          | none => rw [hob] at hm; simp at hm
          | some u => rw [hob] at hm; simp at hm; subst hm; have := HB.out b0 hob; omega⟩
        have xe : Hd (xs = x :: xs.drop 1) := ⟨by rw [hxe, ← List.drop_eq_getElem_cons hxl, List.drop_zero]⟩
        have xone : Hd (∀ u ∈ enc (x.1, x.2), u.oneCell' = true) := ⟨by
          intro u hu
          simp only [enc, List.mem_cons, List.not_mem_nil, or_false] at hu
          rcases hu with rfl | rfl | rfl
          · rfl
          · rfl
          · exact Ok.one _ _ (HAX.out x (by rw [xe.out]; simp))⟩
        have hcutx := run_cut_from (P := Try.prog) 151 154 .i64 Try.underlying151 hi0 3 hz1 (some ⟨b0, o1, none⟩) n1 c1 1 (by omega)
        rw [show ((1 : Nat) : Int) = 1 from rfl] at hcutx
        clear hax hqx hxe
        have hyl : 0 < ys.length := by rw [HLY.out]; exact hy0
        obtain ⟨b1, o2, rfl, hqy, hay⟩ := Sl.row (enc := enc) (sz := 3) (fun _ => rfl) (HSY.out.frame HF.out (by simp)) (i := 0) hyl (by decide)
        obtain ⟨y, hye⟩ : ∃ y, y = ys[0] := ⟨_, rfl⟩
        rw [← hye] at hay
        have cy0 := hay 0 (by decide)
        have cy1 := hay 1 (by decide)
        have cy2 := hay 2 (by decide)
        simp only [enc, List.getElem?_cons_zero, List.getElem?_cons_succ, Nat.add_zero, Nat.zero_mul] at cy0 cy1 cy2
        have hby : b1 < w.heap.size := by
          obtain ⟨bq, hbq, hlt⟩ := HSY.out.lt (by rw [encs_len]; omega)
          rw [hqy] at hbq
          cases hbq
          exact hlt
        have yne : Hd (b1 ∉ (Value.slice L1 k dl).ownBlock.toList) := ⟨by
          intro hm
          cases hob : (Value.slice L1 k dl).ownBlock with
          | none => rw [hob] at hm; simp at hm
          | some u => rw [hob] at hm; simp at hm; subst hm; have := HB.out b1 hob; omega⟩
        have ye : Hd (ys = y :: ys.drop 1) := ⟨by rw [hye, ← List.drop_eq_getElem_cons hyl, List.drop_zero]⟩
        have yone : Hd (∀ u ∈ enc (y.1, y.2), u.oneCell' = true) := ⟨by
          intro u hu
          simp only [enc, List.mem_cons, List.not_mem_nil, or_false] at hu
          rcases hu with rfl | rfl | rfl
          · rfl
          · rfl
          · exact Ok.one _ _ (HAY.out y (by rw [ye.out]; simp))⟩
        have hcuty := run_cut_from (P := Try.prog) 151 154 .i64 Try.underlying151 hi0 3 hz1 (some ⟨b1, o2, none⟩) m1 d1 1 (by omega)
        rw [show ((1 : Nat) : Int) = 1 from rfl] at hcuty
        clear hay hqy hye
        by_cases hle : x.1.wt ≤ y.1.wt
        · have HST : Hd (mgp xs ys = x :: mgp (xs.drop 1) ys) := ⟨by
   conv => lhs; rw [xe.out]
   exact mgp_a (fun z hz => by rw [ye.out] at hz; simp at hz; subst hz; exact hle)⟩
          have hd : decide ((x.1.wt : Int) ≤ (y.1.wt : Int)) = true := decide_eq_true (by omega)
          go_upto_region 3 with (fail)
          go_region
          clear hd hm0
          go_upto_region 4 with (fail)
          go_region_held3 (fun w' => w'.cell? ⟨b0, o1, none⟩ = some (.int .i64 x.1.wt) ∧ w'.cell? ⟨b0, o1 + 1, none⟩ = some (.int .i64 (sym x.1)) ∧ w'.cell? ⟨b0, o1 + 2, none⟩ = some x.2) (go_keep)
            (first | (refine step_append_sl rfl (.tmp 39) (.tmp 43) 151 rfl 154 i0 (.agg #[.int .i64 0, .int .i64 0, .slice none 0 0]) 3 40 Try.underlying151 hi0 hz0 hz1 hz2 rfl (by decide) (.slice L1 k dl) k (encs P) (by simp [Act.eval, Act.put]) (by exact HW.out.alloc _) (some ⟨wr.heap.size, 0, none⟩) 1 1 (enc (x.1, x.2)) (some wr.heap.size) (by simp [Act.eval, Act.put]) rfl (by exact sl_of_blk (blk_new _ _)) (by intro h; cases h) (by exact xone.out) (by unfold maxLen; omega) (by omega) ?_; intro A3 d3 w3 hown' hgrow haft; have O3 := Hd.mk hown'; have G3 := Hd.mk hgrow; have F4 := Hd.mk haft; have KF := Fr.grown (w := wr) (F := (Value.slice L1 k dl).ownBlock.toList) (by first | exact ((Fr.refl wr _).alloc _).drew.drew | exact (Fr.refl wr _).drew.alloc _ | exact ((Fr.refl wr _).alloc _).drew | exact (Fr.refl wr _).alloc _) hgrow (fun k hk => .inl (by rw [hk]; simp)); have k1 := Fr.cellAt KF xne.out cx0; have k2 := Fr.cellAt KF xne.out cx1; have k3 := Fr.cellAt KF xne.out cx2; have HKF := Hd.mk KF; clear hown' hgrow haft KF))
          clear cx0 cx1 cx2 k1 k2 k3 hcutx
          go_wp2
          go_roundg (gk - 1)
          case measure => go_light; omega
          case rel =>
            go_light
            refine ⟨_, n1 - 1, c1 - 1, _, _, _, A3, k + 1, d3, xs.drop 1, ys, P ++ [x], rfl, rfl, rfl, by omega, by omega, by omega, by omega, ⟨by rw [List.length_drop, HLX.out]⟩, HLY, ⟨by rw [List.length_append, HLP.out]; rfl⟩, ⟨Sl.cut3 HSX.out HLX.out hnc1 hx0⟩, HSY, ⟨?_⟩, ⟨?_⟩, ⟨fun z hz => ?_⟩, ⟨HF.out.trans HKF.out (fun z _ hz => ?_)⟩⟩
            · rw [← HM.out, HST.out, List.append_assoc]; rfl
            · rw [encs_app]; have h7 := O3.out; simpa [encs] using h7
            · rcases F4.out with h | ⟨u, h, hu⟩
              · rw [h] at hz; exact HB.out z hz
              · rw [h] at hz; cases hz
                have := HF.out.size
                simp at hu
                omega
            · cases hob : (Value.slice L1 k dl).ownBlock with
              | none => rw [hob] at hz; simp at hz
              | some u => rw [hob] at hz; simp at hz; subst hz; have := HB.out z hob; omega
        · have HST : Hd (mgp xs ys = y :: mgp xs (ys.drop 1)) := ⟨by
   conv => lhs; rw [ye.out]
   exact mgp_b (fun z hz => by rw [xe.out] at hz; simp at hz; subst hz; exact hle)⟩
          have hd : decide ((x.1.wt : Int) ≤ (y.1.wt : Int)) = false := decide_eq_false (by omega)
          go_upto_region 3 with (fail)
          go_region
          clear hd hm0
          go_upto_region 5 with (fail)
          go_region_held3 (fun w' => w'.cell? ⟨b1, o2, none⟩ = some (.int .i64 y.1.wt) ∧ w'.cell? ⟨b1, o2 + 1, none⟩ = some (.int .i64 (sym y.1)) ∧ w'.cell? ⟨b1, o2 + 2, none⟩ = some y.2) (go_keep)
            (first | (refine step_append_sl rfl (.tmp 47) (.tmp 51) 151 rfl 154 i0 (.agg #[.int .i64 0, .int .i64 0, .slice none 0 0]) 3 40 Try.underlying151 hi0 hz0 hz1 hz2 rfl (by decide) (.slice L1 k dl) k (encs P) (by simp [Act.eval, Act.put]) (by exact HW.out.alloc _) (some ⟨wr.heap.size, 0, none⟩) 1 1 (enc (y.1, y.2)) (some wr.heap.size) (by simp [Act.eval, Act.put]) rfl (by exact sl_of_blk (blk_new _ _)) (by intro h; cases h) (by exact yone.out) (by unfold maxLen; omega) (by omega) ?_; intro A3 d3 w3 hown' hgrow haft; have O3 := Hd.mk hown'; have G3 := Hd.mk hgrow; have F4 := Hd.mk haft; have KF := Fr.grown (w := wr) (F := (Value.slice L1 k dl).ownBlock.toList) (by first | exact ((Fr.refl wr _).alloc _).drew.drew | exact (Fr.refl wr _).drew.alloc _ | exact ((Fr.refl wr _).alloc _).drew | exact (Fr.refl wr _).alloc _) hgrow (fun k hk => .inl (by rw [hk]; simp)); have k1 := Fr.cellAt KF yne.out cy0; have k2 := Fr.cellAt KF yne.out cy1; have k3 := Fr.cellAt KF yne.out cy2; have HKF := Hd.mk KF; clear hown' hgrow haft KF))
          clear cy0 cy1 cy2 k1 k2 k3 hcuty
          go_wp2
          go_roundg (gk - 1)
          case measure => go_light; omega
          case rel =>
            go_light
            refine ⟨_, _, _, _, m1 - 1, d1 - 1, A3, k + 1, d3, xs, ys.drop 1, P ++ [y], rfl, rfl, rfl, by omega, by omega, by omega, by omega, HLX, ⟨by rw [List.length_drop, HLY.out]⟩, ⟨by rw [List.length_append, HLP.out]; rfl⟩, HSX, ⟨Sl.cut3 HSY.out HLY.out hmd1 hy0⟩, ⟨?_⟩, ⟨?_⟩, ⟨fun z hz => ?_⟩, ⟨HF.out.trans HKF.out (fun z _ hz => ?_)⟩⟩
            · rw [← HM.out, HST.out, List.append_assoc]; rfl
            · rw [encs_app]; have h7 := O3.out; simpa [encs] using h7
            · rcases F4.out with h | ⟨u, h, hu⟩
              · rw [h] at hz; exact HB.out z hz
              · rw [h] at hz; cases hz
                have := HF.out.size
                simp at hu
                omega
            · cases hob : (Value.slice L1 k dl).ownBlock with
              | none => rw [hob] at hz; simp at hz
              | some u => rw [hob] at hz; simp at hz; subst hz; have := HB.out z hob; omega
      · obtain rfl : m1 = 0 := by omega
        have hy00 : ys = [] := List.eq_nil_of_length_eq_zero HLY.out
        subst hy00
        have hm0 : (((0 : Nat) : Int) == 0) = true := by simp
        have hxl : 0 < xs.length := by rw [HLX.out]; exact hx0
        obtain ⟨b0, o1, rfl, hqx, hax⟩ := Sl.row (enc := enc) (sz := 3) (fun _ => rfl) (HSX.out.frame HF.out (by simp)) (i := 0) hxl (by decide)
        obtain ⟨x, hxe⟩ : ∃ x, x = xs[0] := ⟨_, rfl⟩
        rw [← hxe] at hax
        have cx0 := hax 0 (by decide)
        have cx1 := hax 1 (by decide)
        have cx2 := hax 2 (by decide)
        simp only [enc, List.getElem?_cons_zero, List.getElem?_cons_succ, Nat.add_zero, Nat.zero_mul] at cx0 cx1 cx2
        have hbx : b0 < w.heap.size := by
          obtain ⟨bq, hbq, hlt⟩ := HSX.out.lt (by rw [encs_len]; omega)
          rw [hqx] at hbq
          cases hbq
          exact hlt
        have xne : Hd (b0 ∉ (Value.slice L1 k dl).ownBlock.toList) := ⟨by
          intro hm
          cases hob : (Value.slice L1 k dl).ownBlock with
          | none => rw [hob] at hm; simp at hm
          | some u => rw [hob] at hm; simp at hm; subst hm; have := HB.out b0 hob; omega⟩
        have xe : Hd (xs = x :: xs.drop 1) := ⟨by rw [hxe, ← List.drop_eq_getElem_cons hxl, List.drop_zero]⟩
        have xone : Hd (∀ u ∈ enc (x.1, x.2), u.oneCell' = true) := ⟨by
          intro u hu
          simp only [enc, List.mem_cons, List.not_mem_nil, or_false] at hu
          rcases hu with rfl | rfl | rfl
          · rfl
          · rfl
          · exact Ok.one _ _ (HAX.out x (by rw [xe.out]; simp))⟩
        have hcutx := run_cut_from (P := Try.prog) 151 154 .i64 Try.underlying151 hi0 3 hz1 (some ⟨b0, o1, none⟩) n1 c1 1 (by omega)
        rw [show ((1 : Nat) : Int) = 1 from rfl] at hcutx
        clear hax hqx hxe
        have HST : Hd (mgp xs [] = x :: mgp (xs.drop 1) []) := ⟨by
          conv => lhs; rw [xe.out]
          exact mgp_a (fun z hz => by simp at hz)⟩
        go_upto_region 3 with (fail)
        go_region
        clear hm0
        go_upto_region 4 with (fail)
        go_region_held3 (fun w' => w'.cell? ⟨b0, o1, none⟩ = some (.int .i64 x.1.wt) ∧ w'.cell? ⟨b0, o1 + 1, none⟩ = some (.int .i64 (sym x.1)) ∧ w'.cell? ⟨b0, o1 + 2, none⟩ = some x.2) (go_keep)
          (first | (refine step_append_sl rfl (.tmp 39) (.tmp 43) 151 rfl 154 i0 (.agg #[.int .i64 0, .int .i64 0, .slice none 0 0]) 3 40 Try.underlying151 hi0 hz0 hz1 hz2 rfl (by decide) (.slice L1 k dl) k (encs P) (by simp [Act.eval, Act.put]) (by exact HW.out.alloc _) (some ⟨wr.heap.size, 0, none⟩) 1 1 (enc (x.1, x.2)) (some wr.heap.size) (by simp [Act.eval, Act.put]) rfl (by exact sl_of_blk (blk_new _ _)) (by intro h; cases h) (by exact xone.out) (by unfold maxLen; omega) (by omega) ?_; intro A3 d3 w3 hown' hgrow haft; have O3 := Hd.mk hown'; have G3 := Hd.mk hgrow; have F4 := Hd.mk haft; have KF := Fr.grown (w := wr) (F := (Value.slice L1 k dl).ownBlock.toList) (by first | exact ((Fr.refl wr _).alloc _).drew.drew | exact (Fr.refl wr _).drew.alloc _ | exact ((Fr.refl wr _).alloc _).drew | exact (Fr.refl wr _).alloc _) hgrow (fun k hk => .inl (by rw [hk]; simp)); have k1 := Fr.cellAt KF xne.out cx0; have k2 := Fr.cellAt KF xne.out cx1; have k3 := Fr.cellAt KF xne.out cx2; have HKF := Hd.mk KF; clear hown' hgrow haft KF))
        clear cx0 cx1 cx2 k1 k2 k3 hcutx
        go_wp2
        go_roundg (gk - 1)
        case measure => go_light; omega
        case rel =>
          go_light
          refine ⟨_, n1 - 1, c1 - 1, _, _, _, A3, k + 1, d3, xs.drop 1, [], P ++ [x], rfl, rfl, rfl, by omega, by omega, by omega, by omega, ⟨by rw [List.length_drop, HLX.out]⟩, HLY, ⟨by rw [List.length_append, HLP.out]; rfl⟩, ⟨Sl.cut3 HSX.out HLX.out hnc1 hx0⟩, HSY, ⟨?_⟩, ⟨?_⟩, ⟨fun z hz => ?_⟩, ⟨HF.out.trans HKF.out (fun z _ hz => ?_)⟩⟩
          · rw [← HM.out, HST.out, List.append_assoc]; rfl
          · rw [encs_app]; have h7 := O3.out; simpa [encs] using h7
          · rcases F4.out with h | ⟨u, h, hu⟩
            · rw [h] at hz; exact HB.out z hz
            · rw [h] at hz; cases hz
              have := HF.out.size
              simp at hu
              omega
          · cases hob : (Value.slice L1 k dl).ownBlock with
            | none => rw [hob] at hz; simp at hz
            | some u => rw [hob] at hz; simp at hz; subst hz; have := HB.out z hob; omega
    · obtain rfl : n1 = 0 := by omega
      have hx00 : xs = [] := List.eq_nil_of_length_eq_zero HLX.out
      subst hx00
      by_cases hy0 : 0 < m1
      · have hm0 : ((m1 : Int) == 0) = false := by simp; omega
        have hyl : 0 < ys.length := by rw [HLY.out]; exact hy0
        obtain ⟨b1, o2, rfl, hqy, hay⟩ := Sl.row (enc := enc) (sz := 3) (fun _ => rfl) (HSY.out.frame HF.out (by simp)) (i := 0) hyl (by decide)
        obtain ⟨y, hye⟩ : ∃ y, y = ys[0] := ⟨_, rfl⟩
        rw [← hye] at hay
        have cy0 := hay 0 (by decide)
        have cy1 := hay 1 (by decide)
        have cy2 := hay 2 (by decide)
        simp only [enc, List.getElem?_cons_zero, List.getElem?_cons_succ, Nat.add_zero, Nat.zero_mul] at cy0 cy1 cy2
        have hby : b1 < w.heap.size := by
          obtain ⟨bq, hbq, hlt⟩ := HSY.out.lt (by rw [encs_len]; omega)
          rw [hqy] at hbq
          cases hbq
          exact hlt
        have yne : Hd (b1 ∉ (Value.slice L1 k dl).ownBlock.toList) := ⟨by
          intro hm
          cases hob : (Value.slice L1 k dl).ownBlock with
          | none => rw [hob] at hm; simp at hm
          | some u => rw [hob] at hm; simp at hm; subst hm; have := HB.out b1 hob; omega⟩
        have ye : Hd (ys = y :: ys.drop 1) := ⟨by rw [hye, ← List.drop_eq_getElem_cons hyl, List.drop_zero]⟩
        have yone : Hd (∀ u ∈ enc (y.1, y.2), u.oneCell' = true) := ⟨by
          intro u hu
          simp only [enc, List.mem_cons, List.not_mem_nil, or_false] at hu
          rcases hu with rfl | rfl | rfl
          · rfl
          · rfl
          · exact Ok.one _ _ (HAY.out y (by rw [ye.out]; simp))⟩
        have hcuty := run_cut_from (P := Try.prog) 151 154 .i64 Try.underlying151 hi0 3 hz1 (some ⟨b1, o2, none⟩) m1 d1 1 (by omega)
        rw [show ((1 : Nat) : Int) = 1 from rfl] at hcuty
        clear hay hqy hye
        have HST : Hd (mgp [] ys = y :: mgp [] (ys.drop 1)) := ⟨by
          conv => lhs; rw [ye.out]
          exact mgp_b (fun z hz => by simp at hz)⟩
        go_upto_region 3 with (fail)
        go_region
        clear hm0
        go_upto_region 5 with (fail)
        go_region_held3 (fun w' => w'.cell? ⟨b1, o2, none⟩ = some (.int .i64 y.1.wt) ∧ w'.cell? ⟨b1, o2 + 1, none⟩ = some (.int .i64 (sym y.1)) ∧ w'.cell? ⟨b1, o2 + 2, none⟩ = some y.2) (go_keep)
          (first | (refine step_append_sl rfl (.tmp 47) (.tmp 51) 151 rfl 154 i0 (.agg #[.int .i64 0, .int .i64 0, .slice none 0 0]) 3 40 Try.underlying151 hi0 hz0 hz1 hz2 rfl (by decide) (.slice L1 k dl) k (encs P) (by simp [Act.eval, Act.put]) (by exact HW.out.alloc _) (some ⟨wr.heap.size, 0, none⟩) 1 1 (enc (y.1, y.2)) (some wr.heap.size) (by simp [Act.eval, Act.put]) rfl (by exact sl_of_blk (blk_new _ _)) (by intro h; cases h) (by exact yone.out) (by unfold maxLen; omega) (by omega) ?_; intro A3 d3 w3 hown' hgrow haft; have O3 := Hd.mk hown'; have G3 := Hd.mk hgrow; have F4 := Hd.mk haft; have KF := Fr.grown (w := wr) (F := (Value.slice L1 k dl).ownBlock.toList) (by first | exact ((Fr.refl wr _).alloc _).drew.drew | exact (Fr.refl wr _).drew.alloc _ | exact ((Fr.refl wr _).alloc _).drew | exact (Fr.refl wr _).alloc _) hgrow (fun k hk => .inl (by rw [hk]; simp)); have k1 := Fr.cellAt KF yne.out cy0; have k2 := Fr.cellAt KF yne.out cy1; have k3 := Fr.cellAt KF yne.out cy2; have HKF := Hd.mk KF; clear hown' hgrow haft KF))
        clear cy0 cy1 cy2 k1 k2 k3 hcuty
        go_wp2
        go_roundg (gk - 1)
        case measure => go_light; omega
        case rel =>
          go_light
          refine ⟨_, _, _, _, m1 - 1, d1 - 1, A3, k + 1, d3, [], ys.drop 1, P ++ [y], rfl, rfl, rfl, by omega, by omega, by omega, by omega, HLX, ⟨by rw [List.length_drop, HLY.out]⟩, ⟨by rw [List.length_append, HLP.out]; rfl⟩, HSX, ⟨Sl.cut3 HSY.out HLY.out hmd1 hy0⟩, ⟨?_⟩, ⟨?_⟩, ⟨fun z hz => ?_⟩, ⟨HF.out.trans HKF.out (fun z _ hz => ?_)⟩⟩
          · rw [← HM.out, HST.out, List.append_assoc]; rfl
          · rw [encs_app]; have h7 := O3.out; simpa [encs] using h7
          · rcases F4.out with h | ⟨u, h, hu⟩
            · rw [h] at hz; exact HB.out z hz
            · rw [h] at hz; cases hz
              have := HF.out.size
              simp at hu
              omega
          · cases hob : (Value.slice L1 k dl).ownBlock with
            | none => rw [hob] at hz; simp at hz
            | some u => rw [hob] at hz; simp at hz; subst hz; have := HB.out z hob; omega
      · obtain rfl : m1 = 0 := by omega
        have hy00 : ys = [] := List.eq_nil_of_length_eq_zero HLY.out
        subst hy00
        go_wp2
        go_ret
        have hP : P = mgp ps qs := by have := HM.out; simpa [mgp] using this
        obtain ⟨A', c', e, h2, h3, h4⟩ := own_slice HW.out
        injection e with e1 _ e2
        subst e1 e2
        unfold RowPost
        refine ⟨L1, k, dl, P, (Value.slice L1 k dl).ownBlock, rfl, by rw [hP, mgp_map], HLP.out, h2, h3, fun h => own_none HW.out h, ?_, HB.out, fun z hz => Ok.frame HF.out (by simp) z.1 z.2 (HPM.out z (List.mem_append.2 (.inl hz))), HF.out⟩
        intro h0
        rcases HW.out.2 with ⟨h', hn0⟩ | ⟨g', cap, cur, h', hb, hh, hnc, hcm, hcs, ht⟩
        · rw [encs_len, HLP.out, hn0] at h0; omega
        · injection h' with h1 h2 h3
          subst h1
          refine ⟨g', 0, rfl, rfl, fun z hz => ?_⟩
          have hl := encs_len P
          rw [HLP.out] at hl
          rw [Nat.zero_add, blk_cell hh, ← ht, List.getElem?_take, if_pos (by omega), Array.getElem?_toList]
end Go.Proofs.Ytofajcifjmhomaa.Lens
