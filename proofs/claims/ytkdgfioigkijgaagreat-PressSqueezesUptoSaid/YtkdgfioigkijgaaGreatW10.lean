import Derived.Test.YtkdgfioigkijgaaGreatW01
import Derived.Test.YtkdgfioigkijgaaGreatW02
import Derived.Test.YtkdgfioigkijgaaGreatW04
import Derived.Test.YtkdgfioigkijgaaGreatW08
import Derived.Test.YtkdgfioigkijgaaGreatW09
import Derived.Deep.Light
import Derived.Deep.RegionHeld3
import Derived.WalkSpells
set_option linter.unusedVariables false
set_option linter.unusedSimpArgs false
set_option maxRecDepth 100000
namespace Go.Proofs.YtkdgfioigkijgaaGreat.Lens
open Go.RowKit Go.Proofs.YtkdgfioigkijgaaGreat.Lib Go.Proofs.YtkdgfioigkijgaaGreat.Ints Go.Proofs.YtkdgfioigkijgaaGreat.Sorts Go.Proofs.YtkdgfioigkijgaaGreat.Sort Go.Proofs.YtkdgfioigkijgaaGreat.Pm
def mgp (a b : List (T × Value)) : List (T × Value) := a.merge b (fun p q => le p.1 q.1)
theorem mgp_map (a b : List (T × Value)) : (mgp a b).map (·.1) = mg (a.map (·.1)) (b.map (·.1)) := by
  unfold mgp mg
  induction a generalizing b with
  | nil => simp
  | cons x a iha =>
    induction b with
    | nil => simp
    | cons y b ihb =>
      rw [List.cons_merge_cons, List.map_cons, List.map_cons, List.cons_merge_cons]
      by_cases h : le x.1 y.1 = true
      · rw [if_pos h, if_pos h, List.map_cons, iha (y :: b), List.map_cons]
      · rw [if_neg h, if_neg h, List.map_cons, ihb, List.map_cons]
theorem mgp_perm (a b : List (T × Value)) : (mgp a b).Perm (a ++ b) := List.merge_perm_append _
theorem mgp_a {x : T × Value} {a b : List (T × Value)} (h : ∀ y ∈ b.head?, x.1.wt ≤ y.1.wt) : mgp (x :: a) b = x :: mgp a b := by
  unfold mgp
  cases b with
  | nil => simp
  | cons y b => rw [List.cons_merge_cons, if_pos (by unfold le; simpa using h y (by simp))]
theorem mgp_b {y : T × Value} {a b : List (T × Value)} (h : ∀ x ∈ a.head?, ¬ x.1.wt ≤ y.1.wt) : mgp a (y :: b) = y :: mgp a b := by
  unfold mgp
  cases a with
  | nil => simp
  | cons x a => rw [List.cons_merge_cons, if_neg (by unfold le; simpa using h x (by simp))]
theorem Sl.cut3 {w : World} {A : Option Addr} {ps : List (T × Value)} {q : Option Nat} {n c : Nat} (h : Sl w A (encs ps) q) (hl : ps.length = n) (hnc : n ≤ c) (hk : 0 < n) : Sl w (cutA A c 1 3) (encs (ps.drop 1)) q := by
  intro hx
  rw [encs_len, List.length_drop] at hx
  obtain ⟨b, off, rfl, hq, hc⟩ := h (by rw [encs_len]; omega)
  have e : encs (ps.drop 1) = (encs ps).drop 3 := by
    cases ps with
    | nil => rfl
    | cons p ps => simp [encs, enc]
  refine ⟨b, off + 3, ?_, hq, fun j hj => ?_⟩
  · unfold cutA
    rw [if_neg (by omega)]
    simp [Addr.add_lit]
  · rw [e] at hj ⊢
    rw [List.length_drop, encs_len] at hj
    rw [Nat.add_assoc, hc (3 + j) (by rw [encs_len]; omega), List.getElem?_drop]
set_option maxHeartbeats 4000000 in
theorem merged_any (w : World) (gl : Nat) (A B : Option Addr) (n c m d : Nat) (ps qs : List (T × Value)) (qa qb : Option Nat) (hn : ps.length = n) (hm : qs.length = m) (hnc : n ≤ c) (hmd : m ≤ d) (hS : Sl w A (encs ps) qa) (hT : Sl w B (encs qs) qb)
    (hok : ∀ p ∈ ps, Ok w gl p.1 p.2) (hok2 : ∀ p ∈ qs, Ok w gl p.1 p.2) (hn1 : n ≤ 1000) (hm1 : m ≤ 1000) :
    Calls Tryz.prog 184 #[.slice A n c, .slice B m d] w (RowPost w gl (mg (ps.map (·.1)) (qs.map (·.1)))) := by
  subst hn hm
  have HS := Hd.mk hS
  have HT := Hd.mk hT
  have HOK := Hd.mk hok
  have HOK2 := Hd.mk hok2
  clear hS hT hok hok2
  obtain ⟨i0, hi0, hz0, hz1, hz2⟩ := info_parts infoItem
  obtain ⟨N, hN⟩ : ∃ N, N = ps.length + qs.length := ⟨_, rfl⟩
  have hsum : (ps.length : Int) + (qs.length : Int) = (N : Int) := by omega
  have HN := Hd.mk hN
  have hN2 : N ≤ 2000 := by omega
  clear hN
  go_enter Tryz.func184, Tryz.ntmps184
  go_wp2_with (refine wpList_make_own _ rfl _ _ 317 rfl 0 320 i0 (.agg #[.int .i64 0, .int .i64 0, .slice none 0 0]) 3 Tryz.underlying317 hi0 hz0 hz1 .i64 .i64 _ N rfl rfl rfl (by rw [hz2]; omega) (by unfold maxLen; omega) (Nat.zero_le _) ?_; intro w3 hown1 hgrow1; have O0 := Hd.mk hown1; have F3 := Hd.mk ((Fr.refl w []).grown hgrow1 (by simp)); clear hown1 hgrow1)
  have B0 : Hd (∀ y, (Value.slice (some ⟨w.heap.size, 0, none⟩) 0 N).ownBlock = some y → w.heap.size ≤ y) := ⟨by intro y hy; cases hy; exact Nat.le_refl _⟩
  clear hsum
  go_loopg [0, 1, 5] (ps.length + qs.length) (fun kq av bv lv wr => ∃ (A1 : Option Addr) (n1 c1 : Nat) (B1 : Option Addr) (m1 d1 : Nat) (L1 : Option Addr) (k dl : Nat) (xs ys P : List (T × Value)), av = .slice A1 n1 c1 ∧ bv = .slice B1 m1 d1 ∧ lv = .slice L1 k dl ∧ n1 ≤ c1 ∧ m1 ≤ d1 ∧ n1 + m1 ≤ kq ∧ k + n1 + m1 ≤ 2000 ∧ Hd (xs.length = n1) ∧ Hd (ys.length = m1) ∧ Hd (P.length = k) ∧ Hd (Sl w A1 (encs xs) qa) ∧ Hd (Sl w B1 (encs ys) qb) ∧ Hd (P ++ mgp xs ys = mgp ps qs) ∧ Hd (wr.ownsRow 0 320 3 (.slice L1 k dl) k (encs P)) ∧ Hd (∀ z, (Value.slice L1 k dl).ownBlock = some z → w.heap.size ≤ z) ∧ Hd (Fr w wr []))
  case atStart => exact ⟨A, ps.length, c, B, qs.length, d, some ⟨w.heap.size, 0, none⟩, 0, N, ps, qs, [], rfl, rfl, rfl, hnc, hmd, by omega, by omega, ⟨rfl⟩, ⟨rfl⟩, ⟨rfl⟩, HS, HT, ⟨rfl⟩, O0, B0, F3⟩
  case round =>
    obtain ⟨A1, n1, c1, B1, m1, d1, L1, k, dl, xs, ys, P, rfl, rfl, rfl, hnc1, hmd1, hk, hkl, HLX, HLY, HLP, HSX, HSY, HM, HW, HB, HF⟩ := hrel
    have HPM : Hd (∀ z ∈ P ++ mgp xs ys, Ok w gl z.1 z.2) := ⟨fun z hz => by
      rw [HM.out] at hz
      rcases List.mem_append.1 ((mgp_perm ps qs).mem_iff.1 hz) with h | h
      · exact HOK.out z h
      · exact HOK2.out z h⟩
    have HAX : Hd (∀ z ∈ xs, Ok w gl z.1 z.2) := ⟨fun z hz => HPM.out z (List.mem_append.2 (.inr ((mgp_perm xs ys).mem_iff.2 (List.mem_append.2 (.inl hz)))))⟩
    have HAY : Hd (∀ z ∈ ys, Ok w gl z.1 z.2) := ⟨fun z hz => HPM.out z (List.mem_append.2 (.inr ((mgp_perm xs ys).mem_iff.2 (List.mem_append.2 (.inr hz)))))⟩
    by_cases hx0 : 0 < n1
    · by_cases hy0 : 0 < m1
      · have hm0 : ((m1 : Int) == 0) = false := by simp; omega
        have hxl : 0 < xs.length := by rw [HLX.out]; exact hx0
        obtain ⟨b0, o1, rfl, hqx, hax⟩ := Sl.row (enc := enc) (sz := 3) (fun _ => rfl) (HSX.out.frame HF.out (by simp)) (i := 0) hxl (by decide)
        obtain ⟨x, hxe⟩ : ∃ x, x = xs[0] := ⟨_, rfl⟩
        rw [← hxe] at hax
        have cx0 := hax 0 (by decide)
        have cx1 := hax 1 (by decide)
        have cx2 := hax 2 (by decide)
        simp only [enc, List.getElem?_cons_zero, List.getElem?_cons_succ, Nat.add_zero, Nat.zero_mul] at cx0 cx1 cx2
        have hbx : b0 < w.heap.size := by
          obtain ⟨bq, hbq, hlt⟩ := HSX.out.lt (by rw [encs_len]; omega)
          rw [hqx] at hbq
          cases hbq
          exact hlt
        have xne : Hd (b0 ∉ (Value.slice L1 k dl).ownBlock.toList) := ⟨by
          intro hm
          cases hob : (Value.slice L1 k dl).ownBlock with
          | none => rw [hob] at hm; simp at hm
          | some u => rw [hob] at hm; simp at hm; subst hm; have := HB.out b0 hob; omega⟩
        have xe : Hd (xs = x :: xs.drop 1) := ⟨by rw [hxe, ← List.drop_eq_getElem_cons hxl, List.drop_zero]⟩
        have xone : Hd (∀ u ∈ enc (x.1, x.2), u.oneCell' = true) := ⟨by
          intro u hu
          simp only [enc, List.mem_cons, List.not_mem_nil, or_false] at hu
          rcases hu with rfl | rfl | rfl
          · rfl
          · rfl
          · exact Ok.one _ _ (HAX.out x (by rw [xe.out]; simp))⟩
        have hcutx := run_cut_from (P := Tryz.prog) 317 320 .i64 Tryz.underlying317 hi0 3 hz1 (some ⟨b0, o1, none⟩) n1 c1 1 (by omega)
        rw [show ((1 : Nat) : Int) = 1 from rfl] at hcutx
        clear hax hqx hxe
        have hyl : 0 < ys.length := by rw [HLY.out]; exact hy0
        obtain ⟨b1, o2, rfl, hqy, hay⟩ := Sl.row (enc := enc) (sz := 3) (fun _ => rfl) (HSY.out.frame HF.out (by simp)) (i := 0) hyl (by decide)
        obtain ⟨y, hye⟩ : ∃ y, y = ys[0] := ⟨_, rfl⟩
        rw [← hye] at hay
        have cy0 := hay 0 (by decide)
        have cy1 := hay 1 (by decide)
        have cy2 := hay 2 (by decide)
        simp only [enc, List.getElem?_cons_zero, List.getElem?_cons_succ, Nat.add_zero, Nat.zero_mul] at cy0 cy1 cy2
        have hby : b1 < w.heap.size := by
          obtain ⟨bq, hbq, hlt⟩ := HSY.out.lt (by rw [encs_len]; omega)
          rw [hqy] at hbq
          cases hbq
          exact hlt
        have yne : Hd (b1 ∉ (Value.slice L1 k dl).ownBlock.toList) := ⟨by
          intro hm
          cases hob : (Value.slice L1 k dl).ownBlock with
          | none => rw [hob] at hm; simp at hm
          | some u => rw [hob] at hm; simp at hm; subst hm; have := HB.out b1 hob; omega⟩
        have ye : Hd (ys = y :: ys.drop 1) := ⟨by rw [hye, ← List.drop_eq_getElem_cons hyl, List.drop_zero]⟩
        have yone : Hd (∀ u ∈ enc (y.1, y.2), u.oneCell' = true) := ⟨by
          intro u hu
          simp only [enc, List.mem_cons, List.not_mem_nil, or_false] at hu
          rcases hu with rfl | rfl | rfl
          · rfl
          · rfl
          · exact Ok.one _ _ (HAY.out y (by rw [ye.out]; simp))⟩
        have hcuty := run_cut_from (P := Tryz.prog) 317 320 .i64 Tryz.underlying317 hi0 3 hz1 (some ⟨b1, o2, none⟩) m1 d1 1 (by omega)
        rw [show ((1 : Nat) : Int) = 1 from rfl] at hcuty
        clear hay hqy hye
        by_cases hle : x.1.wt ≤ y.1.wt
        · have HST : Hd (mgp xs ys = x :: mgp (xs.drop 1) ys) := ⟨by
   conv => lhs; rw [xe.out]
   exact mgp_a (fun z hz => by rw [ye.out] at hz; simp at hz; subst hz; exact hle)⟩
          have hd : decide ((x.1.wt : Int) ≤ (y.1.wt : Int)) = true := decide_eq_true (by omega)
          go_upto_region 3 with (fail)
          go_region
          clear hd hm0
          go_upto_region 4 with (fail)
          go_region_held3 (fun w' => w'.cell? ⟨b0, o1, none⟩ = some (.int .i64 x.1.wt) ∧ w'.cell? ⟨b0, o1 + 1, none⟩ = some (.int .i64 (sym x.1)) ∧ w'.cell? ⟨b0, o1 + 2, none⟩ = some x.2) (go_keep)
            (first | (refine step_append_sl rfl (.tmp 39) (.tmp 43) 317 rfl 320 i0 (.agg #[.int .i64 0, .int .i64 0, .slice none 0 0]) 3 40 Tryz.underlying317 hi0 hz0 hz1 hz2 rfl (by decide) (.slice L1 k dl) k (encs P) (by simp [Act.eval, Act.put]) (by exact HW.out.alloc _) (some ⟨wr.heap.size, 0, none⟩) 1 1 (enc (x.1, x.2)) (some wr.heap.size) (by simp [Act.eval, Act.put]) rfl (by exact sl_of_blk (blk_new _ _)) (by intro h; cases h) (by exact xone.out) (by unfold maxLen; omega) (by omega) ?_; intro A3 d3 w3 hown' hgrow haft; have O3 := Hd.mk hown'; have G3 := Hd.mk hgrow; have F4 := Hd.mk haft; have KF := Fr.grown (w := wr) (F := (Value.slice L1 k dl).ownBlock.toList) (by first | exact ((Fr.refl wr _).alloc _).drew.drew | exact (Fr.refl wr _).drew.alloc _ | exact ((Fr.refl wr _).alloc _).drew | exact (Fr.refl wr _).alloc _) hgrow (fun k hk => .inl (by rw [hk]; simp)); have k1 := Fr.cellAt KF xne.out cx0; have k2 := Fr.cellAt KF xne.out cx1; have k3 := Fr.cellAt KF xne.out cx2; have HKF := Hd.mk KF; clear hown' hgrow haft KF))
          clear cx0 cx1 cx2 k1 k2 k3 hcutx
          go_wp2
          go_roundg (gk - 1)
          case measure => go_light; omega
          case rel =>
            go_light
            refine ⟨_, n1 - 1, c1 - 1, _, _, _, A3, k + 1, d3, xs.drop 1, ys, P ++ [x], rfl, rfl, rfl, by omega, by omega, by omega, by omega, ⟨by rw [List.length_drop, HLX.out]⟩, HLY, ⟨by rw [List.length_append, HLP.out]; rfl⟩, ⟨Sl.cut3 HSX.out HLX.out hnc1 hx0⟩, HSY, ⟨?_⟩, ⟨?_⟩, ⟨fun z hz => ?_⟩, ⟨HF.out.trans HKF.out (fun z _ hz => ?_)⟩⟩
            · rw [← HM.out, HST.out, List.append_assoc]; rfl
            · rw [encs_app]; have h7 := O3.out; simpa [encs] using h7
            · rcases F4.out with h | ⟨u, h, hu⟩
              · rw [h] at hz; exact HB.out z hz
              · rw [h] at hz; cases hz
                have := HF.out.size
                simp at hu
                omega
            · cases hob : (Value.slice L1 k dl).ownBlock with
              | none => rw [hob] at hz; simp at hz
              | some u => rw [hob] at hz; simp at hz; subst hz; have := HB.out z hob; omega
        · have HST : Hd (mgp xs ys = y :: mgp xs (ys.drop 1)) := ⟨by
   conv => lhs; rw [ye.out]
   exact mgp_b (fun z hz => by rw [xe.out] at hz; simp at hz; subst hz; exact hle)⟩
          have hd : decide ((x.1.wt : Int) ≤ (y.1.wt : Int)) = false := decide_eq_false (by omega)
          go_upto_region 3 with (fail)
          go_region
          clear hd hm0
          go_upto_region 5 with (fail)
          go_region_held3 (fun w' => w'.cell? ⟨b1, o2, none⟩ = some (.int .i64 y.1.wt) ∧ w'.cell? ⟨b1, o2 + 1, none⟩ = some (.int .i64 (sym y.1)) ∧ w'.cell? ⟨b1, o2 + 2, none⟩ = some y.2) (go_keep)
            (first | (refine step_append_sl rfl (.tmp 47) (.tmp 51) 317 rfl 320 i0 (.agg #[.int .i64 0, .int .i64 0, .slice none 0 0]) 3 40 Tryz.underlying317 hi0 hz0 hz1 hz2 rfl (by decide) (.slice L1 k dl) k (encs P) (by simp [Act.eval, Act.put]) (by exact HW.out.alloc _) (some ⟨wr.heap.size, 0, none⟩) 1 1 (enc (y.1, y.2)) (some wr.heap.size) (by simp [Act.eval, Act.put]) rfl (by exact sl_of_blk (blk_new _ _)) (by intro h; cases h) (by exact yone.out) (by unfold maxLen; omega) (by omega) ?_; intro A3 d3 w3 hown' hgrow haft; have O3 := Hd.mk hown'; have G3 := Hd.mk hgrow; have F4 := Hd.mk haft; have KF := Fr.grown (w := wr) (F := (Value.slice L1 k dl).ownBlock.toList) (by first | exact ((Fr.refl wr _).alloc _).drew.drew | exact (Fr.refl wr _).drew.alloc _ | exact ((Fr.refl wr _).alloc _).drew | exact (Fr.refl wr _).alloc _) hgrow (fun k hk => .inl (by rw [hk]; simp)); have k1 := Fr.cellAt KF yne.out cy0; have k2 := Fr.cellAt KF yne.out cy1; have k3 := Fr.cellAt KF yne.out cy2; have HKF := Hd.mk KF; clear hown' hgrow haft KF))
          clear cy0 cy1 cy2 k1 k2 k3 hcuty
          go_wp2
          go_roundg (gk - 1)
          case measure => go_light; omega
          case rel =>
            go_light
            refine ⟨_, _, _, _, m1 - 1, d1 - 1, A3, k + 1, d3, xs, ys.drop 1, P ++ [y], rfl, rfl, rfl, by omega, by omega, by omega, by omega, HLX, ⟨by rw [List.length_drop, HLY.out]⟩, ⟨by rw [List.length_append, HLP.out]; rfl⟩, HSX, ⟨Sl.cut3 HSY.out HLY.out hmd1 hy0⟩, ⟨?_⟩, ⟨?_⟩, ⟨fun z hz => ?_⟩, ⟨HF.out.trans HKF.out (fun z _ hz => ?_)⟩⟩
            · rw [← HM.out, HST.out, List.append_assoc]; rfl
            · rw [encs_app]; have h7 := O3.out; simpa [encs] using h7
            · rcases F4.out with h | ⟨u, h, hu⟩
              · rw [h] at hz; exact HB.out z hz
              · rw [h] at hz; cases hz
                have := HF.out.size
                simp at hu
                omega
            · cases hob : (Value.slice L1 k dl).ownBlock with
              | none => rw [hob] at hz; simp at hz
              | some u => rw [hob] at hz; simp at hz; subst hz; have := HB.out z hob; omega
      · obtain rfl : m1 = 0 := by omega
        have hy00 : ys = [] := List.eq_nil_of_length_eq_zero HLY.out
        subst hy00
        have hm0 : (((0 : Nat) : Int) == 0) = true := by simp
        have hxl : 0 < xs.length := by rw [HLX.out]; exact hx0
        obtain ⟨b0, o1, rfl, hqx, hax⟩ := Sl.row (enc := enc) (sz := 3) (fun _ => rfl) (HSX.out.frame HF.out (by simp)) (i := 0) hxl (by decide)
        obtain ⟨x, hxe⟩ : ∃ x, x = xs[0] := ⟨_, rfl⟩
        rw [← hxe] at hax
        have cx0 := hax 0 (by decide)
        have cx1 := hax 1 (by decide)
        have cx2 := hax 2 (by decide)
        simp only [enc, List.getElem?_cons_zero, List.getElem?_cons_succ, Nat.add_zero, Nat.zero_mul] at cx0 cx1 cx2
        have hbx : b0 < w.heap.size := by
          obtain ⟨bq, hbq, hlt⟩ := HSX.out.lt (by rw [encs_len]; omega)
          rw [hqx] at hbq
          cases hbq
          exact hlt
        have xne : Hd (b0 ∉ (Value.slice L1 k dl).ownBlock.toList) := ⟨by
          intro hm
          cases hob : (Value.slice L1 k dl).ownBlock with
          | none => rw [hob] at hm; simp at hm
          | some u => rw [hob] at hm; simp at hm; subst hm; have := HB.out b0 hob; omega⟩
        have xe : Hd (xs = x :: xs.drop 1) := ⟨by rw [hxe, ← List.drop_eq_getElem_cons hxl, List.drop_zero]⟩
        have xone : Hd (∀ u ∈ enc (x.1, x.2), u.oneCell' = true) := ⟨by
          intro u hu
          simp only [enc, List.mem_cons, List.not_mem_nil, or_false] at hu
          rcases hu with rfl | rfl | rfl
          · rfl
          · rfl
          · exact Ok.one _ _ (HAX.out x (by rw [xe.out]; simp))⟩
        have hcutx := run_cut_from (P := Tryz.prog) 317 320 .i64 Tryz.underlying317 hi0 3 hz1 (some ⟨b0, o1, none⟩) n1 c1 1 (by omega)
        rw [show ((1 : Nat) : Int) = 1 from rfl] at hcutx
        clear hax hqx hxe
        have HST : Hd (mgp xs [] = x :: mgp (xs.drop 1) []) := ⟨by
          conv => lhs; rw [xe.out]
          exact mgp_a (fun z hz => by simp at hz)⟩
        go_upto_region 3 with (fail)
        go_region
        clear hm0
        go_upto_region 4 with (fail)
        go_region_held3 (fun w' => w'.cell? ⟨b0, o1, none⟩ = some (.int .i64 x.1.wt) ∧ w'.cell? ⟨b0, o1 + 1, none⟩ = some (.int .i64 (sym x.1)) ∧ w'.cell? ⟨b0, o1 + 2, none⟩ = some x.2) (go_keep)
          (first | (refine step_append_sl rfl (.tmp 39) (.tmp 43) 317 rfl 320 i0 (.agg #[.int .i64 0, .int .i64 0, .slice none 0 0]) 3 40 Tryz.underlying317 hi0 hz0 hz1 hz2 rfl (by decide) (.slice L1 k dl) k (encs P) (by simp [Act.eval, Act.put]) (by exact HW.out.alloc _) (some ⟨wr.heap.size, 0, none⟩) 1 1 (enc (x.1, x.2)) (some wr.heap.size) (by simp [Act.eval, Act.put]) rfl (by exact sl_of_blk (blk_new _ _)) (by intro h; cases h) (by exact xone.out) (by unfold maxLen; omega) (by omega) ?_; intro A3 d3 w3 hown' hgrow haft; have O3 := Hd.mk hown'; have G3 := Hd.mk hgrow; have F4 := Hd.mk haft; have KF := Fr.grown (w := wr) (F := (Value.slice L1 k dl).ownBlock.toList) (by first | exact ((Fr.refl wr _).alloc _).drew.drew | exact (Fr.refl wr _).drew.alloc _ | exact ((Fr.refl wr _).alloc _).drew | exact (Fr.refl wr _).alloc _) hgrow (fun k hk => .inl (by rw [hk]; simp)); have k1 := Fr.cellAt KF xne.out cx0; have k2 := Fr.cellAt KF xne.out cx1; have k3 := Fr.cellAt KF xne.out cx2; have HKF := Hd.mk KF; clear hown' hgrow haft KF))
        clear cx0 cx1 cx2 k1 k2 k3 hcutx
        go_wp2
        go_roundg (gk - 1)
        case measure => go_light; omega
        case rel =>
          go_light
          refine ⟨_, n1 - 1, c1 - 1, _, _, _, A3, k + 1, d3, xs.drop 1, [], P ++ [x], rfl, rfl, rfl, by omega, by omega, by omega, by omega, ⟨by rw [List.length_drop, HLX.out]⟩, HLY, ⟨by rw [List.length_append, HLP.out]; rfl⟩, ⟨Sl.cut3 HSX.out HLX.out hnc1 hx0⟩, HSY, ⟨?_⟩, ⟨?_⟩, ⟨fun z hz => ?_⟩, ⟨HF.out.trans HKF.out (fun z _ hz => ?_)⟩⟩
          · rw [← HM.out, HST.out, List.append_assoc]; rfl
          · rw [encs_app]; have h7 := O3.out; simpa [encs] using h7
          · rcases F4.out with h | ⟨u, h, hu⟩
            · rw [h] at hz; exact HB.out z hz
            · rw [h] at hz; cases hz
              have := HF.out.size
              simp at hu
              omega
          · cases hob : (Value.slice L1 k dl).ownBlock with
            | none => rw [hob] at hz; simp at hz
            | some u => rw [hob] at hz; simp at hz; subst hz; have := HB.out z hob; omega
    · obtain rfl : n1 = 0 := by omega
      have hx00 : xs = [] := List.eq_nil_of_length_eq_zero HLX.out
      subst hx00
      by_cases hy0 : 0 < m1
      · have hm0 : ((m1 : Int) == 0) = false := by simp; omega
        have hyl : 0 < ys.length := by rw [HLY.out]; exact hy0
        obtain ⟨b1, o2, rfl, hqy, hay⟩ := Sl.row (enc := enc) (sz := 3) (fun _ => rfl) (HSY.out.frame HF.out (by simp)) (i := 0) hyl (by decide)
        obtain ⟨y, hye⟩ : ∃ y, y = ys[0] := ⟨_, rfl⟩
        rw [← hye] at hay
        have cy0 := hay 0 (by decide)
        have cy1 := hay 1 (by decide)
        have cy2 := hay 2 (by decide)
        simp only [enc, List.getElem?_cons_zero, List.getElem?_cons_succ, Nat.add_zero, Nat.zero_mul] at cy0 cy1 cy2
        have hby : b1 < w.heap.size := by
          obtain ⟨bq, hbq, hlt⟩ := HSY.out.lt (by rw [encs_len]; omega)
          rw [hqy] at hbq
          cases hbq
          exact hlt
        have yne : Hd (b1 ∉ (Value.slice L1 k dl).ownBlock.toList) := ⟨by
          intro hm
          cases hob : (Value.slice L1 k dl).ownBlock with
          | none => rw [hob] at hm; simp at hm
          | some u => rw [hob] at hm; simp at hm; subst hm; have := HB.out b1 hob; omega⟩
        have ye : Hd (ys = y :: ys.drop 1) := ⟨by rw [hye, ← List.drop_eq_getElem_cons hyl, List.drop_zero]⟩
        have yone : Hd (∀ u ∈ enc (y.1, y.2), u.oneCell' = true) := ⟨by
          intro u hu
          simp only [enc, List.mem_cons, List.not_mem_nil, or_false] at hu
          rcases hu with rfl | rfl | rfl
          · rfl
          · rfl
          · exact Ok.one _ _ (HAY.out y (by rw [ye.out]; simp))⟩
        have hcuty := run_cut_from (P := Tryz.prog) 317 320 .i64 Tryz.underlying317 hi0 3 hz1 (some ⟨b1, o2, none⟩) m1 d1 1 (by omega)
        rw [show ((1 : Nat) : Int) = 1 from rfl] at hcuty
        clear hay hqy hye
        have HST : Hd (mgp [] ys = y :: mgp [] (ys.drop 1)) := ⟨by
          conv => lhs; rw [ye.out]
          exact mgp_b (fun z hz => by simp at hz)⟩
        go_upto_region 3 with (fail)
        go_region
        clear hm0
        go_upto_region 5 with (fail)
        go_region_held3 (fun w' => w'.cell? ⟨b1, o2, none⟩ = some (.int .i64 y.1.wt) ∧ w'.cell? ⟨b1, o2 + 1, none⟩ = some (.int .i64 (sym y.1)) ∧ w'.cell? ⟨b1, o2 + 2, none⟩ = some y.2) (go_keep)
          (first | (refine step_append_sl rfl (.tmp 47) (.tmp 51) 317 rfl 320 i0 (.agg #[.int .i64 0, .int .i64 0, .slice none 0 0]) 3 40 Tryz.underlying317 hi0 hz0 hz1 hz2 rfl (by decide) (.slice L1 k dl) k (encs P) (by simp [Act.eval, Act.put]) (by exact HW.out.alloc _) (some ⟨wr.heap.size, 0, none⟩) 1 1 (enc (y.1, y.2)) (some wr.heap.size) (by simp [Act.eval, Act.put]) rfl (by exact sl_of_blk (blk_new _ _)) (by intro h; cases h) (by exact yone.out) (by unfold maxLen; omega) (by omega) ?_; intro A3 d3 w3 hown' hgrow haft; have O3 := Hd.mk hown'; have G3 := Hd.mk hgrow; have F4 := Hd.mk haft; have KF := Fr.grown (w := wr) (F := (Value.slice L1 k dl).ownBlock.toList) (by first | exact ((Fr.refl wr _).alloc _).drew.drew | exact (Fr.refl wr _).drew.alloc _ | exact ((Fr.refl wr _).alloc _).drew | exact (Fr.refl wr _).alloc _) hgrow (fun k hk => .inl (by rw [hk]; simp)); have k1 := Fr.cellAt KF yne.out cy0; have k2 := Fr.cellAt KF yne.out cy1; have k3 := Fr.cellAt KF yne.out cy2; have HKF := Hd.mk KF; clear hown' hgrow haft KF))
        clear cy0 cy1 cy2 k1 k2 k3 hcuty
        go_wp2
        go_roundg (gk - 1)
        case measure => go_light; omega
        case rel =>
          go_light
          refine ⟨_, _, _, _, m1 - 1, d1 - 1, A3, k + 1, d3, [], ys.drop 1, P ++ [y], rfl, rfl, rfl, by omega, by omega, by omega, by omega, HLX, ⟨by rw [List.length_drop, HLY.out]⟩, ⟨by rw [List.length_append, HLP.out]; rfl⟩, HSX, ⟨Sl.cut3 HSY.out HLY.out hmd1 hy0⟩, ⟨?_⟩, ⟨?_⟩, ⟨fun z hz => ?_⟩, ⟨HF.out.trans HKF.out (fun z _ hz => ?_)⟩⟩
          · rw [← HM.out, HST.out, List.append_assoc]; rfl
          · rw [encs_app]; have h7 := O3.out; simpa [encs] using h7
          · rcases F4.out with h | ⟨u, h, hu⟩
            · rw [h] at hz; exact HB.out z hz
            · rw [h] at hz; cases hz
              have := HF.out.size
              simp at hu
              omega
          · cases hob : (Value.slice L1 k dl).ownBlock with
            | none => rw [hob] at hz; simp at hz
            | some u => rw [hob] at hz; simp at hz; subst hz; have := HB.out z hob; omega
      · obtain rfl : m1 = 0 := by omega
        have hy00 : ys = [] := List.eq_nil_of_length_eq_zero HLY.out
        subst hy00
        go_wp2
        go_ret
        have hP : P = mgp ps qs := by have := HM.out; simpa [mgp] using this
        obtain ⟨A', c', e, h2, h3, h4⟩ := own_slice HW.out
        injection e with e1 _ e2
        subst e1 e2
        unfold RowPost
        refine ⟨L1, k, dl, P, (Value.slice L1 k dl).ownBlock, rfl, by rw [hP, mgp_map], HLP.out, h2, h3, fun h => own_none HW.out h, ?_, HB.out, fun z hz => Ok.frame HF.out (by simp) z.1 z.2 (HPM.out z (List.mem_append.2 (.inl hz))), HF.out⟩
        intro h0
        rcases HW.out.2 with ⟨h', hn0⟩ | ⟨g', cap, cur, h', hb, hh, hnc, hcm, hcs, ht⟩
        · rw [encs_len, HLP.out, hn0] at h0; omega
        · injection h' with h1 h2 h3
          subst h1
          refine ⟨g', 0, rfl, rfl, fun z hz => ?_⟩
          have hl := encs_len P
          rw [HLP.out] at hl
          rw [Nat.zero_add, blk_cell hh, ← ht, List.getElem?_take, if_pos (by omega), Array.getElem?_toList]
end Go.Proofs.YtkdgfioigkijgaaGreat.Lens
set_option linter.unusedVariables false
set_option linter.unusedSimpArgs false
set_option maxRecDepth 100000
namespace Go.Proofs.YtkdgfioigkijgaaGreat.Lens
open Go.RowKit Go.Proofs.YtkdgfioigkijgaaGreat.Lib Go.Proofs.YtkdgfioigkijgaaGreat.Ints Go.Proofs.YtkdgfioigkijgaaGreat.Sorts Go.Proofs.YtkdgfioigkijgaaGreat.Sort Go.Proofs.YtkdgfioigkijgaaGreat.Pm
def bel (N : Nat) : T → Prop
  | .leaf _ s => s < N
  | .pack a b => bel N a ∧ bel N b
def tsz : T → Nat
  | .leaf _ _ => 1
  | .pack a b => 1 + tsz a + tsz b
def lsz : List T → Nat
  | [] => 0
  | t :: l => tsz t + lsz l
theorem lsz_get : ∀ (l : List T) (j : Nat) (h : j < l.length), tsz l[j] ≤ lsz l
  | t :: l, 0, h => by simp [lsz]
  | t :: l, j + 1, h => by
    have := lsz_get l j (by simpa using h)
    simp only [List.getElem_cons_succ, lsz]; omega
def cv (N : Nat) (f : Nat → Nat) : Array Value := ((List.range N).map fun s => Value.int .i64 (f s)).toArray
def Cnt (w : World) (gl N : Nat) (f : Nat → Nat) : Prop := w.heap[gl]? = some (.cells (cv N f) 3 (0, 0))
theorem Cnt.cell {w : World} {gl N : Nat} {f : Nat → Nat} (h : Cnt w gl N f) {s : Nat} (hs : s < N) : w.cell? ⟨gl, s, none⟩ = some (.int .i64 (f s)) := by
  rw [blk_cell h]; simp [cv, hs]
theorem Cnt.put {w : World} {gl N : Nat} {f : Nat → Nat} (h : Cnt w gl N f) {s : Nat} (hs : s < N) (v : Nat) : Cnt (w.setCell ⟨gl, s, none⟩ (.int .i64 v)) gl N (fun k => if k = s then v else f k) := by
  unfold Cnt
  rw [blk_set h]
  congr 2
  apply Array.ext_getElem?
  intro k
  rw [Array.getElem?_setIfInBounds]
  by_cases e : s = k
  · subst e; simp [cv, hs]
  · rw [if_neg e]
    by_cases hk : k < N
    · simp [cv, hk, show ¬ k = s from fun e2 => e e2.symm]
    · simp [cv, hk]
theorem Cnt.frame {w w' : World} {gl N : Nat} {f : Nat → Nat} (h : Cnt w gl N f) {F : List Nat} (hf : Fr w w' F) (hg : gl ∉ F) : Cnt w' gl N f := hf.blk h hg
structure Cl (w : World) (gv gc gl N : Nat) : Prop where
  v : w.heap[gv]? = some (.cells #[.slice (some ⟨gl, 0, none⟩) N N] 79 (0, 0))
  c : w.heap[gc]? = some (.cells #[.func (.func 186) #[] #[.pointer (some ⟨gv, 0, none⟩), .pointer (some ⟨gc, 0, none⟩)]] 323 (0, 0))
theorem Cl.frame {w w' : World} {gv gc gl N : Nat} (h : Cl w gv gc gl N) {F : List Nat} (hf : Fr w w' F) (h1 : gv ∉ F) (h2 : gc ∉ F) : Cl w' gv gc gl N := ⟨hf.blk h.v h1, hf.blk h.c h2⟩
def CountPost (w : World) (gl N : Nat) (f : Nat → Nat) (ts : List T) (e : Ending) (w' : World) : Prop :=
  e = .returned (.tuple #[]) ∧ Cnt w' gl N (fun s => f s + cl ts s) ∧ Fr w w' [gl]
theorem Cnt.congr {w : World} {gl N : Nat} {f g : Nat → Nat} (h : Cnt w gl N f) (e : ∀ s, f s = g s) : Cnt w gl N g := by rw [← show f = g from funext e]; exact h
theorem Cnt.free {w : World} {gl N : Nat} {f : Nat → Nat} (h : Cnt w gl N f) (s : Nat) : w.frozen? ⟨gl, s, none⟩ = false := blk_frozen h s
theorem cl_take_snoc (ts : List T) {j : Nat} (h : j < ts.length) (s : Nat) : cl (ts.take (j + 1)) s = cl (ts.take j) s + ts[j].cnt s := by
  rw [List.take_succ_eq_append_getElem h, cl_app]; simp [cl]
theorem cl_take_le (ts : List T) (j s : Nat) : cl (ts.take j) s ≤ cl ts s := by
  have := cl_app (ts.take j) (ts.drop j) s
  rw [List.take_append_drop] at this
  omega
theorem gv_ne {w : World} {gv gc gl N : Nat} {f : Nat → Nat} (h : Cl w gv gc gl N) (hc : Cnt w gl N f) : gv ≠ gl ∧ gc ≠ gl := ⟨blk_ne h.v hc (by decide), blk_ne h.c hc (by decide)⟩
set_option maxHeartbeats 2000000 in
theorem count_any (gv gc gl N : Nat) (hN : N ≤ 1000) : ∀ (K : Nat) (w : World) (A : Option Addr) (n c : Nat) (ps : List (T × Value)) (q : Option Nat) (f : Nat → Nat), lsz (ps.map (·.1)) < K → ps.length = n → n ≤ c → n ≤ 1000 → Sl w A (encs ps) q → q ≠ some gl → (∀ p ∈ ps, Ok w gl p.1 p.2) →
    (∀ p ∈ ps, bel N p.1) → Cl w gv gc gl N → Cnt w gl N f → (∀ s, f s + cl (ps.map (·.1)) s ≤ 1000000) →
    Calls Tryz.prog 186 #[.slice A n c, .pointer (some ⟨gv, 0, none⟩), .pointer (some ⟨gc, 0, none⟩)] w (CountPost w gl N f (ps.map (·.1))) := by
  intro K
  induction K with
  | zero => intro w A n c ps q f hsz; omega
  | succ K ih =>
    intro w A n c ps q f hsz hn hnc hn1 hS hq hok hbel hcl hcnt hbd
    have HIH := Hd.mk ih
    subst hn
    have HS := Hd.mk hS
    have HQ := Hd.mk hq
    have HOK := Hd.mk hok
    have HBEL := Hd.mk hbel
    have HCL := Hd.mk hcl
    have HC := Hd.mk hcnt
    have HBD := Hd.mk hbd
    have HSZ := Hd.mk hsz
    clear ih hS hq hok hbel hcl hcnt hbd hsz
    go_enter Tryz.func186, Tryz.ntmps186
    go_wp2
    go_loopg [8] ps.length (fun kq jv wr => ∃ j : Nat, jv = .int .i64 (j : Nat) ∧ j + kq = ps.length ∧ Hd (Cnt wr gl N (fun s => f s + cl ((ps.map (·.1)).take j) s)) ∧ Hd (Fr w wr [gl]))
    case atStart => exact ⟨0, rfl, by omega, ⟨by simpa [cl] using HC.out⟩, ⟨Fr.refl _ _⟩⟩
    case round =>
      obtain ⟨j, rfl, hj, HCN, HF⟩ := hrel
      by_cases h1 : j < ps.length
      · obtain ⟨b0, o1, rfl, hqb, ha⟩ := Sl.row (enc := enc) (sz := 3) (fun _ => rfl) (HS.out.frame HF.out (by intro k hk hm; simp at hm; subst hm; exact HQ.out hk)) h1 (by decide)
        obtain ⟨x, hx⟩ : ∃ x, x = ps[j] := ⟨_, rfl⟩
        rw [← hx] at ha
        have c0 := ha 0 (by decide)
        have c1 := ha 1 (by decide)
        have c2 := ha 2 (by decide)
        simp only [enc, List.getElem?_cons_zero, List.getElem?_cons_succ, Nat.add_zero] at c0 c1 c2
        have HX := Hd.mk hx
        clear hx ha
        have hmem : x ∈ ps := by rw [HX.out]; exact List.getElem_mem _
        have hokx := HOK.out x hmem
        have hbex := HBEL.out x hmem
        have HME := Hd.mk hmem
        obtain ⟨t, v⟩ := x
        cases t with
        | leaf wt s =>
          have hv : v = .slice none 0 0 := hokx
          subst hv
          have hsN : s < N := hbex
          simp only [T.wt, sym] at c0 c1 c2
          clear hokx hbex hmem
          have hK : 0 < K := by
            have e1 := lsz_get (ps.map (·.1)) j (by rw [List.length_map]; exact h1)
            have e2 : (ps.map (·.1))[j]'(by rw [List.length_map]; exact h1) = .leaf wt s := by rw [List.getElem_map, ← HX.out]
            rw [e2, tsz] at e1
            have := HSZ.out; omega
          have n0 := fun w => Lib.run_eql_slice_nil (P := Tryz.prog) w 317 320 none 0 0 0 0 Tryz.underlying317
          go_upto_region 3 with (fail)
          have B1 := blk_new wr (.cells #[.int .i64 wt, .int .i64 s, .slice none 0 0] 320)
          have A1 := (Fr.refl wr []).alloc (.cells #[.int .i64 wt, .int .i64 s, .slice none 0 0] 320)
          have HC1 := Hd.mk (HCN.out.frame A1 (by simp))
          have HF1 := Hd.mk (HF.out.trans A1 (by simp))
          clear A1 c0 c1 c2 HF HCN
          generalize wr.alloc (.cells #[.int .i64 wt, .int .i64 s, .slice none 0 0] 320) = w1 at *
          generalize wr.heap.size = g1 at *
          have d1 := blk_cell B1 1
          have d2 := blk_cell B1 2
          simp only [List.getElem?_toArray, List.getElem?_cons_zero, List.getElem?_cons_succ] at d1 d2
          have HCL1 := Hd.mk (HCL.out.frame HF1.out (by simpa using (gv_ne HCL.out HC.out).1) (by simpa using (gv_ne HCL.out HC.out).2))
          have vc := blk_cell HCL1.out.v 0
          have cc := blk_cell HCL1.out.c 0
          simp only [List.getElem?_toArray, List.getElem?_cons_zero] at vc cc
          have lc := HC1.out.cell hsN
          obtain ⟨x, hx⟩ : ∃ x, x = f s + cl ((ps.map (·.1)).take j) s := ⟨_, rfl⟩
          rw [← hx] at lc
          have hxb : x ≤ 1000000 := by
            have e1 := cl_take_le (ps.map (·.1)) j s
            have e2 := HBD.out s
            omega
          have HX2 := Hd.mk hx
          have lf := HC1.out.free s
          have HB1 := Hd.mk B1
          clear hx B1
          have HP := Hd.mk ((HC1.out.put hsN (x + 1)))
          have HG := Hd.mk ((Fr.setCell (a := ⟨gl, s, none⟩) HF1.out (.int .i64 ((x + 1 : Nat) : Int)) (.inl (by simp))))
          have hx1 : ((x + 1 : Nat) : Int) = (x : Int) + 1 := by omega
          rw [hx1] at HG
          unfold Cnt at HP
          rw [hx1] at HP
          clear hx1
          have hg1 : g1 ≠ gl := blk_ne HB1.out HC1.out (by decide)
          have HB2 := Hd.mk (blk_far (p := ⟨gl, s, none⟩) HB1.out hg1 (.int .i64 ((x : Int) + 1)))
          clear hg1
          go_upto_region 5 with (fail)
          clear d1 d2 vc cc lc lf HC1 HB1 HCL1 HF1 n0
          generalize w1.setCell ⟨gl, s, none⟩ (.int .i64 ((x : Int) + 1)) = w2 at *
          have HCL2 := Hd.mk (HCL.out.frame HG.out (by simpa using (gv_ne HCL.out HC.out).1) (by simpa using (gv_ne HCL.out HC.out).2))
          have cc := blk_cell HCL2.out.c 0
          have d2 := blk_cell HB2.out 2
          simp only [List.getElem?_toArray, List.getElem?_cons_zero, List.getElem?_cons_succ] at cc d2
          have HP2 : Hd (Cnt w2 gl N (fun k => f k + cl ((ps.map (·.1)).take (j + 1)) k)) := ⟨Cnt.congr (show Cnt w2 gl N _ from HP.out) (fun k => by
            have e1 := cl_take_snoc (ps.map (·.1)) (j := j) (by rw [List.length_map]; exact h1) k
            have e2 : (ps.map (·.1))[j]'(by rw [List.length_map]; exact h1) = .leaf wt s := by rw [List.getElem_map, ← HX.out]
            rw [e2] at e1
            rw [e1, T.cnt]
            by_cases e : k = s
            · rw [if_pos e, if_pos e.symm, e, HX2.out]; omega
            · rw [if_neg e, if_neg (fun h => e h.symm)]; omega)⟩
          go_wp2_with (fail)
          refine (HIH.out w2 none 0 0 [] none (fun k => f k + cl ((ps.map (·.1)).take (j + 1)) k) hK rfl (Nat.le_refl _) (Nat.zero_le _) (Sl.nil _ _ _) (by simp) (fun p hp => by simp at hp) (fun p hp => by simp at hp) HCL2.out HP2.out (fun k => by
            have e1 := cl_take_le (ps.map (·.1)) (j + 1) k
            have e2 := HBD.out k
            simp only [List.map_nil, cl]; omega)).mono ?_
          rintro e w3 ⟨rfl, r1, r2⟩
          have R1 : Hd (Cnt w3 gl N (fun k => f k + cl ((ps.map (·.1)).take (j + 1)) k)) := ⟨Cnt.congr r1 (fun k => by simp only [List.map_nil, cl]; omega)⟩
          have R2 := Hd.mk (HG.out.trans r2 (by simp))
          clear r1 r2 cc d2
          go_wp2
          go_roundg (gk - 1)
          case measure => go_light; omega
          case rel => go_light; exact ⟨j + 1, by go_num, by omega, R1, R2⟩
        | pack a b =>
          obtain ⟨g, off, cap, va, vb, hv, hgl, hcap, hsl, hoa, hob⟩ := hokx
          subst hv
          simp only [T.wt, sym] at c0 c1 c2
          obtain ⟨wv, hwv⟩ : ∃ wv : Int, wv = ((a.wt + b.wt : Nat) : Int) := ⟨_, rfl⟩
          rw [← hwv] at c0
          rw [show ((0 : Nat) : Int) = 0 from rfl] at c1
          clear hwv
          have HBX := Hd.mk hbex
          have HSL := Hd.mk hsl
          have HOA := Hd.mk hoa
          have HOB := Hd.mk hob
          have HGL := Hd.mk hgl
          have HCAP := Hd.mk hcap
          clear hbex hmem hsl hoa hob hgl hcap
          have hKs : Hd (lsz [a, b] < K) := ⟨by
            have e1 := lsz_get (ps.map (·.1)) j (by rw [List.length_map]; exact h1)
            have e2 : (ps.map (·.1))[j]'(by rw [List.length_map]; exact h1) = .pack a b := by rw [List.getElem_map, ← HX.out]
            rw [e2, tsz] at e1
            have := HSZ.out
            simp only [lsz]; omega⟩
          have n0 := fun w => Lib.run_eql_slice_nil (P := Tryz.prog) w 317 320 (some ⟨g, off, none⟩) 2 cap 0 0 Tryz.underlying317
          go_upto_region 3 with (fail)
          have B1 := blk_new wr (.cells #[.int .i64 wv, .int .i64 0, .slice (some ⟨g, off, none⟩) 2 cap] 320)
          have A1 := (Fr.refl wr []).alloc (.cells #[.int .i64 wv, .int .i64 0, .slice (some ⟨g, off, none⟩) 2 cap] 320)
          have HC1 := Hd.mk (HCN.out.frame A1 (by simp))
          have HF1 := Hd.mk (HF.out.trans A1 (by simp))
          clear A1 c0 c1 c2 HF HCN
          generalize wr.alloc (.cells #[.int .i64 wv, .int .i64 0, .slice (some ⟨g, off, none⟩) 2 cap] 320) = w1 at *
          generalize wr.heap.size = g1 at *
          have d2 := blk_cell B1 2
          simp only [List.getElem?_toArray, List.getElem?_cons_zero, List.getElem?_cons_succ] at d2
          have HCL1 := Hd.mk (HCL.out.frame HF1.out (by simpa using (gv_ne HCL.out HC.out).1) (by simpa using (gv_ne HCL.out HC.out).2))
          have cc := blk_cell HCL1.out.c 0
          simp only [List.getElem?_toArray, List.getElem?_cons_zero] at cc
          clear B1
          go_upto_region 5 with (fail)
          clear n0
          go_wp2_with (fail)
          refine (HIH.out w1 (some ⟨g, off, none⟩) 2 cap [(a, va), (b, vb)] (some g) (fun k => f k + cl ((ps.map (·.1)).take j) k) hKs.out rfl HCAP.out (by omega) (by
            have := HSL.out.frame HF1.out (by intro k hk hm; cases hk; simp at hm; exact HGL.out hm)
            simpa [encs] using this) (by intro h; cases h; exact HGL.out rfl) (fun p hp => by
              simp only [List.mem_cons, List.not_mem_nil, or_false] at hp
              rcases hp with rfl | rfl
              · exact Ok.frame HF1.out (by simp) _ _ HOA.out
              · exact Ok.frame HF1.out (by simp) _ _ HOB.out) (fun p hp => by
              simp only [List.mem_cons, List.not_mem_nil, or_false] at hp
              rcases hp with rfl | rfl
              · exact HBX.out.1
              · exact HBX.out.2) HCL1.out HC1.out (fun k => by
            have e1 := cl_take_le (ps.map (·.1)) (j + 1) k
            have e2 := HBD.out k
            have e3 := cl_take_snoc (ps.map (·.1)) (j := j) (by rw [List.length_map]; exact h1) k
            have e4 : (ps.map (·.1))[j]'(by rw [List.length_map]; exact h1) = .pack a b := by rw [List.getElem_map, ← HX.out]
            rw [e4, T.cnt] at e3
            simp only [List.map_cons, List.map_nil, cl]; omega)).mono ?_
          rintro e w3 ⟨rfl, r1, r2⟩
          have R1 : Hd (Cnt w3 gl N (fun k => f k + cl ((ps.map (·.1)).take (j + 1)) k)) := ⟨Cnt.congr r1 (fun k => by
            have e3 := cl_take_snoc (ps.map (·.1)) (j := j) (by rw [List.length_map]; exact h1) k
            have e4 : (ps.map (·.1))[j]'(by rw [List.length_map]; exact h1) = .pack a b := by rw [List.getElem_map, ← HX.out]
            rw [e4, T.cnt] at e3
            simp only [List.map_cons, List.map_nil, cl]; omega)⟩
          have R2 := Hd.mk (HF1.out.trans r2 (by simp))
          clear r1 r2 cc d2
          go_wp2
          go_roundg (gk - 1)
          case measure => go_light; omega
          case rel => go_light; exact ⟨j + 1, by go_num, by omega, R1, R2⟩
      · go_wp2
        go_end0
        have := HCN.out
        rw [List.take_of_length_le (by rw [List.length_map]; omega)] at this
        exact ⟨rfl, this, HF.out⟩
end Go.Proofs.YtkdgfioigkijgaaGreat.Lens
