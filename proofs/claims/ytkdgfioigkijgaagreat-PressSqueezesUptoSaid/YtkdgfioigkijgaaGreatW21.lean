import Derived.Test.YtkdgfioigkijgaaGreatW01
import Derived.Test.YtkdgfioigkijgaaGreatW02
import Derived.Test.YtkdgfioigkijgaaGreatW04
import Derived.Test.YtkdgfioigkijgaaGreatW05
import Derived.Test.YtkdgfioigkijgaaGreatW08
import Derived.Test.YtkdgfioigkijgaaGreatW09
import Derived.Test.YtkdgfioigkijgaaGreatW10
import Derived.Test.YtkdgfioigkijgaaGreatW11
import Derived.Test.YtkdgfioigkijgaaGreatW19
import Derived.Test.YtkdgfioigkijgaaGreatW20
set_option linter.unusedVariables false
set_option linter.unusedSimpArgs false
set_option maxRecDepth 100000
namespace Go.Proofs.YtkdgfioigkijgaaGreat.Lens
open Go.RowKit Go.Proofs.YtkdgfioigkijgaaGreat.Lib Go.Proofs.YtkdgfioigkijgaaGreat.Ints Go.Proofs.YtkdgfioigkijgaaGreat.Sorts Go.Proofs.YtkdgfioigkijgaaGreat.Sort Go.Proofs.YtkdgfioigkijgaaGreat.Pm Go.Proofs.YtkdgfioigkijgaaGreat.Num
def mgr (a b : List RI) : List RI := a.merge b (fun p q => le p.t q.t)
theorem mgr_map (a b : List RI) : (mgr a b).map (·.t) = mg (a.map (·.t)) (b.map (·.t)) := by
  unfold mgr mg
  induction a generalizing b with
  | nil => simp
  | cons x a iha =>
    induction b with
    | nil => simp
    | cons y b ihb =>
      rw [List.cons_merge_cons, List.map_cons, List.map_cons, List.cons_merge_cons]
      by_cases h : le x.t y.t = true
      · rw [if_pos h, if_pos h, List.map_cons, iha (y :: b), List.map_cons]
      · rw [if_neg h, if_neg h, List.map_cons, ihb, List.map_cons]
theorem mgr_perm (a b : List RI) : (mgr a b).Perm (a ++ b) := List.merge_perm_append _
theorem mgr_a {x : RI} {a b : List RI} (h : ∀ y ∈ b.head?, x.t.wt ≤ y.t.wt) : mgr (x :: a) b = x :: mgr a b := by
  unfold mgr
  cases b with
  | nil => simp
  | cons y b => rw [List.cons_merge_cons, if_pos (by unfold le; simpa using h y (by simp))]
theorem mgr_b {y : RI} {a b : List RI} (h : ∀ x ∈ a.head?, ¬ x.t.wt ≤ y.t.wt) : mgr a (y :: b) = y :: mgr a b := by
  unfold mgr
  cases a with
  | nil => simp
  | cons x a => rw [List.cons_merge_cons, if_neg (by unfold le; simpa using h x (by simp))]
theorem Sl.cutr {w : World} {A : Option Addr} {N : Nat} {ps : List RI} {q : Option Nat} {n c : Nat} (h : Sl w A (rencs N ps) q) (hl : ps.length = n) (hnc : n ≤ c) (hk : 0 < n) : Sl w (cutA A c 1 3) (rencs N (ps.drop 1)) q := by
  intro hx
  rw [rencs_len, List.length_drop] at hx
  obtain ⟨b, off, rfl, hq, hc⟩ := h (by rw [rencs_len]; omega)
  have e : rencs N (ps.drop 1) = (rencs N ps).drop 3 := by
    cases ps with
    | nil => rfl
    | cons p ps => simp [rencs, renc]
  refine ⟨b, off + 3, ?_, hq, fun j hj => ?_⟩
  · unfold cutA
    rw [if_neg (by omega)]
    simp [Addr.add_lit]
  · rw [e] at hj ⊢
    rw [List.length_drop, rencs_len] at hj
    rw [Nat.add_assoc, hc (3 + j) (by rw [rencs_len]; omega), List.getElem?_drop]
def MPost (w : World) (N : Nat) (ps qs : List RI) (e : Ending) (w' : World) : Prop :=
  ∃ B m d, e = .returned (.slice B m d) ∧ (mgr ps qs).length = m ∧ w'.ownsRow 0 251 3 (.slice B m d) m (rencs N (mgr ps qs)) ∧ (∀ k, (Value.slice B m d).ownBlock = some k → w.heap.size ≤ k) ∧ Fr w w' []
set_option maxHeartbeats 4000000 in
theorem rmerged_any (w : World) (N : Nat) (A B : Option Addr) (n c m d : Nat) (ps qs : List RI) (qa qb : Option Nat) (hn : ps.length = n) (hm : qs.length = m) (hnc : n ≤ c) (hmd : m ≤ d) (hS : Sl w A (rencs N ps) qa) (hT : Sl w B (rencs N qs) qb) (hn1 : n ≤ 1000) (hm1 : m ≤ 1000) :
    Calls Tryz.prog 148 #[.slice A n c, .slice B m d] w (MPost w N ps qs) := by
  subst hn hm
  have HS := Hd.mk hS
  have HT := Hd.mk hT
  clear hS hT
  obtain ⟨i0, hi0, hz0, hz1, hz2⟩ := info_parts infoRItem
  go_enter Tryz.func148, Tryz.ntmps148
  go_wp2
  go_loopg [0, 1, 5] (ps.length + qs.length) (fun kq av bv lv wr => ∃ (A1 : Option Addr) (n1 c1 : Nat) (B1 : Option Addr) (m1 d1 : Nat) (L1 : Option Addr) (k dl : Nat) (xs ys P : List RI), av = .slice A1 n1 c1 ∧ bv = .slice B1 m1 d1 ∧ lv = .slice L1 k dl ∧ n1 ≤ c1 ∧ m1 ≤ d1 ∧ n1 + m1 ≤ kq ∧ k + n1 + m1 ≤ 2000 ∧ Hd (xs.length = n1) ∧ Hd (ys.length = m1) ∧ Hd (P.length = k) ∧ Hd (Sl w A1 (rencs N xs) qa) ∧ Hd (Sl w B1 (rencs N ys) qb) ∧ Hd (P ++ mgr xs ys = mgr ps qs) ∧ Hd (wr.ownsRow 0 251 3 (.slice L1 k dl) k (rencs N P)) ∧ Hd (∀ z, (Value.slice L1 k dl).ownBlock = some z → w.heap.size ≤ z) ∧ Hd (Fr w wr []))
  case atStart => exact ⟨A, ps.length, c, B, qs.length, d, none, 0, 0, ps, qs, [], rfl, rfl, rfl, hnc, hmd, by omega, by omega, ⟨rfl⟩, ⟨rfl⟩, ⟨rfl⟩, HS, HT, ⟨rfl⟩, ⟨own_nil _ _ _ _⟩, ⟨fun k hk => by simp [Value.ownBlock] at hk⟩, ⟨Fr.refl _ _⟩⟩
  case round =>
    obtain ⟨A1, n1, c1, B1, m1, d1, L1, k, dl, xs, ys, P, rfl, rfl, rfl, hnc1, hmd1, hk, hkl, HLX, HLY, HLP, HSX, HSY, HM, HW, HB, HF⟩ := hrel
    by_cases hx0 : 0 < n1
    · by_cases hy0 : 0 < m1
      · have hm0 : ((m1 : Int) == 0) = false := by simp; omega
        have hxl : 0 < xs.length := by rw [HLX.out]; exact hx0
        obtain ⟨b0, o1, rfl, _, hax⟩ := Sl.row (enc := renc N) (sz := 3) (fun _ => rfl) (HSX.out.frame HF.out (by simp)) (i := 0) hxl (by decide)
        obtain ⟨x, hxe⟩ : ∃ x, x = xs[0] := ⟨_, rfl⟩
        rw [← hxe] at hax
        have cx0 := hax 0 (by decide)
        have cx1 := hax 1 (by decide)
        have cx2 := hax 2 (by decide)
        simp only [renc, List.getElem?_cons_zero, List.getElem?_cons_succ, Nat.add_zero, Nat.zero_mul] at cx0 cx1 cx2
        have xe : Hd (xs = x :: xs.drop 1) := ⟨by rw [hxe, ← List.drop_eq_getElem_cons hxl, List.drop_zero]⟩
        have hcutx := run_cut_from (P := Tryz.prog) 248 251 .i64 Tryz.underlying248 hi0 3 hz1 (some ⟨b0, o1, none⟩) n1 c1 1 (by omega)
        rw [show ((1 : Nat) : Int) = 1 from rfl] at hcutx
        clear hax hxe
        have hyl : 0 < ys.length := by rw [HLY.out]; exact hy0
        obtain ⟨b1, o2, rfl, _, hay⟩ := Sl.row (enc := renc N) (sz := 3) (fun _ => rfl) (HSY.out.frame HF.out (by simp)) (i := 0) hyl (by decide)
        obtain ⟨y, hye⟩ : ∃ y, y = ys[0] := ⟨_, rfl⟩
        rw [← hye] at hay
        have cy0 := hay 0 (by decide)
        have cy1 := hay 1 (by decide)
        have cy2 := hay 2 (by decide)
        simp only [renc, List.getElem?_cons_zero, List.getElem?_cons_succ, Nat.add_zero, Nat.zero_mul] at cy0 cy1 cy2
        have ye : Hd (ys = y :: ys.drop 1) := ⟨by rw [hye, ← List.drop_eq_getElem_cons hyl, List.drop_zero]⟩
        have hcuty := run_cut_from (P := Tryz.prog) 248 251 .i64 Tryz.underlying248 hi0 3 hz1 (some ⟨b1, o2, none⟩) m1 d1 1 (by omega)
        rw [show ((1 : Nat) : Int) = 1 from rfl] at hcuty
        clear hay hye
        by_cases hle : x.t.wt ≤ y.t.wt
        · have hd : decide ((x.t.wt : Int) ≤ (y.t.wt : Int)) = true := decide_eq_true (by omega)
          have HST : Hd (mgr xs ys = x :: mgr (xs.drop 1) ys) := ⟨by
            conv => lhs; rw [xe.out]
            exact mgr_a (fun z hz => by rw [ye.out] at hz; simp at hz; subst hz; exact hle)⟩
          go_upto_region 3 with (fail)
          go_region
          clear hd hm0 cy0 cy1 cy2 hcuty
          go_wp2_with (at_builtin; refine wpList_append_sl rfl (.tmp 33) (.tmp 37) 248 rfl 251 i0 (.agg #[.int .i64 0, .bool false, .slice none 0 0]) 3 40 Tryz.underlying248 hi0 hz0 hz1 hz2 rfl (by decide) (.slice L1 k dl) k _ rfl (by exact HW.out.alloc _) (some ⟨_, 0, none⟩) 1 1 (renc N x) (some _) rfl rfl (by exact sl_of_blk (blk_new _ _)) (by intro h; cases h) (by intro u hu; simp only [renc, List.mem_cons, List.not_mem_nil, or_false] at hu; rcases hu with rfl | rfl | rfl <;> rfl) (by unfold maxLen; omega) (by omega) ?_; intro A3 d3 w3 hown' hgrow haft; have O3 := Hd.mk hown'; have G3 := Hd.mk hgrow; have F4 := Hd.mk haft; clear hown' hgrow haft)
          clear cx0 cx1 cx2 hcutx
          go_roundg (gk - 1)
          case measure => go_light; omega
          case rel =>
            go_light
            refine ⟨_, n1 - 1, c1 - 1, _, _, _, A3, k + 1, d3, xs.drop 1, ys, P ++ [x], rfl, rfl, rfl, by omega, by omega, by omega, by omega, ⟨by rw [List.length_drop, HLX.out]⟩, HLY, ⟨by rw [List.length_append, HLP.out]; rfl⟩, ⟨Sl.cutr HSX.out HLX.out hnc1 hx0⟩, HSY, ⟨?_⟩, ⟨?_⟩, ⟨fun z hz => ?_⟩, ⟨Fr.grown (w := w) (F := []) (by first | exact HF.out.alloc _ | exact (HF.out.alloc _).drew | exact HF.out.drew.alloc _ | exact (HF.out.drewN _).alloc _) G3.out (fun z hz => .inr (HB.out z hz))⟩⟩
            · rw [← HM.out, HST.out, List.append_assoc]; rfl
            · rw [rencs_app]; have h7 := O3.out; simpa [rencs] using h7
            · rcases F4.out with h | ⟨u, h, hu⟩
              · rw [h] at hz; exact HB.out z hz
              · rw [h] at hz; cases hz
                have := HF.out.size
                simp at hu
                omega
        · have hd : decide ((x.t.wt : Int) ≤ (y.t.wt : Int)) = false := decide_eq_false (by omega)
          have HST : Hd (mgr xs ys = y :: mgr xs (ys.drop 1)) := ⟨by
            conv => lhs; rw [ye.out]
            exact mgr_b (fun z hz => by rw [xe.out] at hz; simp at hz; subst hz; exact hle)⟩
          go_upto_region 3 with (fail)
          go_region
          clear hd hm0 cx0 cx1 cx2 hcutx
          go_wp2_with (at_builtin; refine wpList_append_sl rfl (.tmp 41) (.tmp 45) 248 rfl 251 i0 (.agg #[.int .i64 0, .bool false, .slice none 0 0]) 3 40 Tryz.underlying248 hi0 hz0 hz1 hz2 rfl (by decide) (.slice L1 k dl) k _ rfl (by exact HW.out.alloc _) (some ⟨_, 0, none⟩) 1 1 (renc N y) (some _) rfl rfl (by exact sl_of_blk (blk_new _ _)) (by intro h; cases h) (by intro u hu; simp only [renc, List.mem_cons, List.not_mem_nil, or_false] at hu; rcases hu with rfl | rfl | rfl <;> rfl) (by unfold maxLen; omega) (by omega) ?_; intro A3 d3 w3 hown' hgrow haft; have O3 := Hd.mk hown'; have G3 := Hd.mk hgrow; have F4 := Hd.mk haft; clear hown' hgrow haft)
          clear cy0 cy1 cy2 hcuty
          go_roundg (gk - 1)
          case measure => go_light; omega
          case rel =>
            go_light
            refine ⟨_, _, _, _, m1 - 1, d1 - 1, A3, k + 1, d3, xs, ys.drop 1, P ++ [y], rfl, rfl, rfl, by omega, by omega, by omega, by omega, HLX, ⟨by rw [List.length_drop, HLY.out]⟩, ⟨by rw [List.length_append, HLP.out]; rfl⟩, HSX, ⟨Sl.cutr HSY.out HLY.out hmd1 hy0⟩, ⟨?_⟩, ⟨?_⟩, ⟨fun z hz => ?_⟩, ⟨Fr.grown (w := w) (F := []) (by first | exact HF.out.alloc _ | exact (HF.out.alloc _).drew | exact HF.out.drew.alloc _ | exact (HF.out.drewN _).alloc _) G3.out (fun z hz => .inr (HB.out z hz))⟩⟩
            · rw [← HM.out, HST.out, List.append_assoc]; rfl
            · rw [rencs_app]; have h7 := O3.out; simpa [rencs] using h7
            · rcases F4.out with h | ⟨u, h, hu⟩
              · rw [h] at hz; exact HB.out z hz
              · rw [h] at hz; cases hz
                have := HF.out.size
                simp at hu
                omega
      · obtain rfl : m1 = 0 := by omega
        have hy00 : ys = [] := List.eq_nil_of_length_eq_zero HLY.out
        subst hy00
        have hm0 : (((0 : Nat) : Int) == 0) = true := by simp
        have hxl : 0 < xs.length := by rw [HLX.out]; exact hx0
        obtain ⟨b0, o1, rfl, _, hax⟩ := Sl.row (enc := renc N) (sz := 3) (fun _ => rfl) (HSX.out.frame HF.out (by simp)) (i := 0) hxl (by decide)
        obtain ⟨x, hxe⟩ : ∃ x, x = xs[0] := ⟨_, rfl⟩
        rw [← hxe] at hax
        have cx0 := hax 0 (by decide)
        have cx1 := hax 1 (by decide)
        have cx2 := hax 2 (by decide)
        simp only [renc, List.getElem?_cons_zero, List.getElem?_cons_succ, Nat.add_zero, Nat.zero_mul] at cx0 cx1 cx2
        have xe : Hd (xs = x :: xs.drop 1) := ⟨by rw [hxe, ← List.drop_eq_getElem_cons hxl, List.drop_zero]⟩
        have hcutx := run_cut_from (P := Tryz.prog) 248 251 .i64 Tryz.underlying248 hi0 3 hz1 (some ⟨b0, o1, none⟩) n1 c1 1 (by omega)
        rw [show ((1 : Nat) : Int) = 1 from rfl] at hcutx
        clear hax hxe
        have HST : Hd (mgr xs [] = x :: mgr (xs.drop 1) []) := ⟨by
          conv => lhs; rw [xe.out]
          exact mgr_a (fun z hz => by simp at hz)⟩
        go_upto_region 3 with (fail)
        go_region
        clear hm0
        go_wp2_with (at_builtin; refine wpList_append_sl rfl (.tmp 33) (.tmp 37) 248 rfl 251 i0 (.agg #[.int .i64 0, .bool false, .slice none 0 0]) 3 40 Tryz.underlying248 hi0 hz0 hz1 hz2 rfl (by decide) (.slice L1 k dl) k _ rfl (by exact HW.out.alloc _) (some ⟨_, 0, none⟩) 1 1 (renc N x) (some _) rfl rfl (by exact sl_of_blk (blk_new _ _)) (by intro h; cases h) (by intro u hu; simp only [renc, List.mem_cons, List.not_mem_nil, or_false] at hu; rcases hu with rfl | rfl | rfl <;> rfl) (by unfold maxLen; omega) (by omega) ?_; intro A3 d3 w3 hown' hgrow haft; have O3 := Hd.mk hown'; have G3 := Hd.mk hgrow; have F4 := Hd.mk haft; clear hown' hgrow haft)
        clear cx0 cx1 cx2 hcutx
        go_roundg (gk - 1)
        case measure => go_light; omega
        case rel =>
          go_light
          refine ⟨_, n1 - 1, c1 - 1, _, _, _, A3, k + 1, d3, xs.drop 1, [], P ++ [x], rfl, rfl, rfl, by omega, by omega, by omega, by omega, ⟨by rw [List.length_drop, HLX.out]⟩, HLY, ⟨by rw [List.length_append, HLP.out]; rfl⟩, ⟨Sl.cutr HSX.out HLX.out hnc1 hx0⟩, HSY, ⟨?_⟩, ⟨?_⟩, ⟨fun z hz => ?_⟩, ⟨Fr.grown (w := w) (F := []) (by first | exact HF.out.alloc _ | exact (HF.out.alloc _).drew | exact HF.out.drew.alloc _ | exact (HF.out.drewN _).alloc _) G3.out (fun z hz => .inr (HB.out z hz))⟩⟩
          · rw [← HM.out, HST.out, List.append_assoc]; rfl
          · rw [rencs_app]; have h7 := O3.out; simpa [rencs] using h7
          · rcases F4.out with h | ⟨u, h, hu⟩
            · rw [h] at hz; exact HB.out z hz
            · rw [h] at hz; cases hz
              have := HF.out.size
              simp at hu
              omega
    · obtain rfl : n1 = 0 := by omega
      have hx00 : xs = [] := List.eq_nil_of_length_eq_zero HLX.out
      subst hx00
      by_cases hy0 : 0 < m1
      · have hm0 : ((m1 : Int) == 0) = false := by simp; omega
        have hyl : 0 < ys.length := by rw [HLY.out]; exact hy0
        obtain ⟨b1, o2, rfl, _, hay⟩ := Sl.row (enc := renc N) (sz := 3) (fun _ => rfl) (HSY.out.frame HF.out (by simp)) (i := 0) hyl (by decide)
        obtain ⟨y, hye⟩ : ∃ y, y = ys[0] := ⟨_, rfl⟩
        rw [← hye] at hay
        have cy0 := hay 0 (by decide)
        have cy1 := hay 1 (by decide)
        have cy2 := hay 2 (by decide)
        simp only [renc, List.getElem?_cons_zero, List.getElem?_cons_succ, Nat.add_zero, Nat.zero_mul] at cy0 cy1 cy2
        have ye : Hd (ys = y :: ys.drop 1) := ⟨by rw [hye, ← List.drop_eq_getElem_cons hyl, List.drop_zero]⟩
        have hcuty := run_cut_from (P := Tryz.prog) 248 251 .i64 Tryz.underlying248 hi0 3 hz1 (some ⟨b1, o2, none⟩) m1 d1 1 (by omega)
        rw [show ((1 : Nat) : Int) = 1 from rfl] at hcuty
        clear hay hye
        have HST : Hd (mgr [] ys = y :: mgr [] (ys.drop 1)) := ⟨by
          conv => lhs; rw [ye.out]
          exact mgr_b (fun z hz => by simp at hz)⟩
        go_upto_region 3 with (fail)
        go_region
        clear hm0
        go_wp2_with (at_builtin; refine wpList_append_sl rfl (.tmp 41) (.tmp 45) 248 rfl 251 i0 (.agg #[.int .i64 0, .bool false, .slice none 0 0]) 3 40 Tryz.underlying248 hi0 hz0 hz1 hz2 rfl (by decide) (.slice L1 k dl) k _ rfl (by exact HW.out.alloc _) (some ⟨_, 0, none⟩) 1 1 (renc N y) (some _) rfl rfl (by exact sl_of_blk (blk_new _ _)) (by intro h; cases h) (by intro u hu; simp only [renc, List.mem_cons, List.not_mem_nil, or_false] at hu; rcases hu with rfl | rfl | rfl <;> rfl) (by unfold maxLen; omega) (by omega) ?_; intro A3 d3 w3 hown' hgrow haft; have O3 := Hd.mk hown'; have G3 := Hd.mk hgrow; have F4 := Hd.mk haft; clear hown' hgrow haft)
        clear cy0 cy1 cy2 hcuty
        go_roundg (gk - 1)
        case measure => go_light; omega
        case rel =>
          go_light
          refine ⟨_, _, _, _, m1 - 1, d1 - 1, A3, k + 1, d3, [], ys.drop 1, P ++ [y], rfl, rfl, rfl, by omega, by omega, by omega, by omega, HLX, ⟨by rw [List.length_drop, HLY.out]⟩, ⟨by rw [List.length_append, HLP.out]; rfl⟩, HSX, ⟨Sl.cutr HSY.out HLY.out hmd1 hy0⟩, ⟨?_⟩, ⟨?_⟩, ⟨fun z hz => ?_⟩, ⟨Fr.grown (w := w) (F := []) (by first | exact HF.out.alloc _ | exact (HF.out.alloc _).drew | exact HF.out.drew.alloc _ | exact (HF.out.drewN _).alloc _) G3.out (fun z hz => .inr (HB.out z hz))⟩⟩
          · rw [← HM.out, HST.out, List.append_assoc]; rfl
          · rw [rencs_app]; have h7 := O3.out; simpa [rencs] using h7
          · rcases F4.out with h | ⟨u, h, hu⟩
            · rw [h] at hz; exact HB.out z hz
            · rw [h] at hz; cases hz
              have := HF.out.size
              simp at hu
              omega
      · obtain rfl : m1 = 0 := by omega
        have hy00 : ys = [] := List.eq_nil_of_length_eq_zero HLY.out
        subst hy00
        go_wp2
        go_ret
        have hP : P = mgr ps qs := by have := HM.out; simpa [mgr] using this
        have hl := HLP.out
        have hw := HW.out
        rw [hP] at hl hw
        unfold MPost
        exact ⟨L1, k, dl, rfl, hl, hw, HB.out, HF.out⟩
end Go.Proofs.YtkdgfioigkijgaaGreat.Lens
set_option linter.unusedVariables false
set_option linter.unusedSimpArgs false
set_option maxRecDepth 100000
namespace Go.Proofs.YtkdgfioigkijgaaGreat.Lens
open Go.RowKit Go.Proofs.YtkdgfioigkijgaaGreat.Lib Go.Proofs.YtkdgfioigkijgaaGreat.Ints Go.Proofs.YtkdgfioigkijgaaGreat.Sorts Go.Proofs.YtkdgfioigkijgaaGreat.Sort Go.Proofs.YtkdgfioigkijgaaGreat.Pm Go.Proofs.YtkdgfioigkijgaaGreat.Num
theorem copy_all {ops : Array Oper} {rest : List Oper} {o : Oper} {a : Act} {w : World} {Q : Exit → Act → World → Prop} (hgd : o.guard = none) (d s : Operand)
    (ho : o.op = .call { callee := .builtin .copy, args := #[d, s], argTypes := #[79, 79] })
    (g n cap : Nat) (A : Option Addr) (c : Nat) (xs ys : List Value) (q : Option Nat) (hd : a.eval d = .slice (some ⟨g, 0, none⟩) n cap) (hs : a.eval s = .slice A n c)
    (hO : w.ownsRow 0 3 1 (.slice (some ⟨g, 0, none⟩) n cap) n ys) (hn : xs.length = n) (hS : Sl w A xs q) (h1 : ∀ v ∈ xs, v.oneCell' = true)
    (h : ∀ w', w'.ownsRow 0 3 1 (.slice (some ⟨g, 0, none⟩) n cap) n xs → Fr w w' [g] → wpList Tryz.prog ops Q rest (a.put o.dst (goInt n)) w') :
    wpList Tryz.prog ops Q (o :: rest) a w := by
  subst hn
  have hsz : (Tryz.prog.info? 3).map (·.size) = some 1 := by kernel_rfl
  by_cases h0 : xs.length = 0
  · obtain rfl : xs = [] := List.eq_nil_of_length_eq_zero h0
    have hy : ys = [] := List.eq_nil_of_length_eq_zero (by have := hO.1; simpa using this)
    subst hy
    exact wpList_copy_nothing hgd d s _ _ ho 3 Tryz.underlying79 hsz _ A 0 cap 0 c hd hs rfl (h w hO (Fr.refl w _))
  · obtain ⟨bd, off, rfl, _, hcc⟩ := hS (by omega)
    obtain ⟨hl, hrow⟩ := hO
    rcases hrow with ⟨e, _⟩ | ⟨g', cap', cur, e, hb, hg, hnc, hcm, hcs, hcur⟩
    · cases e
    · injection e with e1 _ e2
      injection e1 with e1
      injection e1 with e1 _ _
      subst e1 e2
      refine wpList_copy_own hgd d s _ _ ho 3 Tryz.underlying79 hsz g 0 xs.length cap ⟨bd, off, none⟩ xs.length c hd hs cur _ hg xs (by simp) (fun j v hv => ?_) (by omega) h1 (h _ ⟨by omega, .inr ⟨g, cap, _, rfl, hb, setRow_heap _ _ _ _ _ _ hg, hnc, hcm, ?_, ?_⟩⟩ (setRow_fr (Fr.refl w _) _ (.inl (by simp))))
      · have hj : j < xs.length := by
          rcases Nat.lt_or_ge j xs.length with h | h
          · exact h
          · rw [List.getElem?_eq_none h] at hv; cases hv
        have hadd : (⟨bd, off, none⟩ : Addr).add j = ⟨bd, off + j, none⟩ := by unfold Addr.add; split <;> simp_all
        rw [hadd, hcc j hj, hv]
      · simp; omega
      · simp
theorem rrow_len {L : List T} {n j : Nat} (h : L.length = n) : (rrow L j).length ≤ 2 * n := by
  cases j with
  | zero => rw [rrow]; omega
  | succ j => rw [rrow, List.length_take]; omega
theorem rrow_wt {M : Nat} {L : List T} (h : ∀ t ∈ L, t.wt ≤ M) : ∀ j, ∀ t ∈ rrow L j, t.wt ≤ 2 ^ j * M
  | 0 => fun t ht => by have := h t ht; simp; omega
  | j + 1 => fun t ht => by
    rw [rrow] at ht
    rcases List.mem_append.1 ((mg_perm _ _).mem_iff.1 (List.mem_of_mem_take ht)) with h1 | h1
    · have := h t h1
      have : M ≤ 2 ^ (j + 1) * M := Nat.le_mul_of_pos_left _ (Nat.two_pow_pos _)
      omega
    · have := pk_wt _ (rrow_wt h j) t h1
      rw [Nat.pow_succ, Nat.mul_comm _ 2, Nat.mul_assoc]; exact this
theorem pk_cnt {s M : Nat} : ∀ (l : List T), (∀ t ∈ l, t.cnt s ≤ M) → ∀ t ∈ pk l, t.cnt s ≤ 2 * M
  | [], _, t, h => by simp [pk] at h
  | [a], _, t, h => by simp [pk] at h
  | a :: b :: l, hl, t, h => by
    simp only [pk, List.mem_cons] at h
    rcases h with rfl | h
    · have := hl a (by simp); have := hl b (by simp); simp only [T.cnt]; omega
    · exact pk_cnt l (fun t ht => hl t (by simp [ht])) t h
theorem rrow_cnt {s : Nat} {L : List T} (h : ∀ t ∈ L, t.cnt s ≤ 1) : ∀ j, ∀ t ∈ rrow L j, t.cnt s ≤ 2 ^ j
  | 0 => fun t ht => by have := h t ht; simp; omega
  | j + 1 => fun t ht => by
    rw [rrow] at ht
    rcases List.mem_append.1 ((mg_perm _ _).mem_iff.1 (List.mem_of_mem_take ht)) with h1 | h1
    · have := h t h1
      have : 0 < 2 ^ (j + 1) := Nat.two_pow_pos _
      omega
    · have := pk_cnt _ (rrow_cnt h j) t h1
      rw [Nat.pow_succ]; omega
set_option maxHeartbeats 4000000 in
theorem rlengths_any (w : World) (limit : Int) (A : Option Addr) (n c : Nat) (fs : List Int) (p : Option Nat) (hn : fs.length = n) (hS : Sl w A (i64s fs) p) (hn1 : n ≤ 4611686018427387904) :
    Calls Tryz.prog 90 #[.int .i64 limit, .slice A n c] w (LensPost w (lensN limit fs)) := by
  subst hn
  have HS := Hd.mk hS
  clear hS
  by_cases hl1 : limit < 1
  · have hr : Hd (lensN limit fs = ([], 1)) := ⟨by unfold lensN; rw [if_pos (.inl hl1)]⟩
    go_enter Tryz.func90, Tryz.ntmps90
    go_wp2
    go_ret2
    rw [hr.out]
    exact ⟨none, 0, 0, rfl, own_nil _ _ _ _, fun k hk => by simp [Value.ownBlock] at hk, Fr.refl _ _⟩
  by_cases hl2 : 15 < limit
  · have hr : Hd (lensN limit fs = ([], 1)) := ⟨by unfold lensN; rw [if_pos (.inr hl2)]⟩
    go_enter Tryz.func90, Tryz.ntmps90
    go_wp2
    go_ret2
    rw [hr.out]
    exact ⟨none, 0, 0, rfl, own_nil _ _ _ _, fun k hk => by simp [Value.ownBlock] at hk, Fr.refl _ _⟩
  obtain ⟨l, hl⟩ : ∃ l : Nat, l = limit.toNat := ⟨_, rfl⟩
  obtain rfl : limit = (l : Int) := by omega
  by_cases hc : cn fs = 0
  · have hcz := cn_zero hc
    have HC := Hd.mk hc
    have HO := Hd.mk hcz.2
    have h288 := hcz.1
    clear hcz hc hl
    obtain ⟨j0, hj0, hj1, hj2, hj3⟩ := info_parts infoI64
    obtain ⟨i0, hi0, hz0, hz1, hz2⟩ := info_parts infoRItem
    go_enter Tryz.func90, Tryz.ntmps90
    go_wp2_with (fail)
    refine (wrong_any w A fs.length c fs p rfl HS.out hn1).mono ?_
    rintro e w' ⟨rfl, rfl⟩
    rw [HC.out]
    go_wp2_with (fail)
    refine (rleaves_any w A fs.length c fs p rfl HS.out h288 HO.out).mono ?_
    rintro e w1 ⟨B, m, d, ps0, rfl, k1, k2, k3, k4, k5, k6⟩
    have hml : (lvs fs).length = m := by rw [← k1, List.length_map]; exact k2
    have hmle : m ≤ fs.length := by rw [← hml]; exact lvs_le fs
    have HML := Hd.mk hml
    have hmd : m ≤ d := by obtain ⟨_, _, e, h, _⟩ := own_slice k3; injection e with _ _ e; omega
    have HBN : Hd (B = none → m = 0 ∧ d = 0) := ⟨fun h => own_none k3 h⟩
    have K1 := Hd.mk k1
    have K2 := Hd.mk k2
    have K3 := Hd.mk (sl_of_own3 k3)
    have K5 := Hd.mk k5
    have K6 := Hd.mk k6
    have hbl : Hd (∀ k, (Value.slice B m d).ownBlock = some k → k < w1.heap.size) := ⟨fun k hk => own_lt k3 hk⟩
    clear k1 k2 k3 k4 k5 k6 hml
    have hpl : 2 ^ l ≤ 32768 := Nat.pow_le_pow_right (n := 2) (by decide) (show l ≤ 15 by omega)
    have hpw : (2 : Int) ^ l = ((2 ^ l : Nat) : Int) := (pow_cast l).symm
    obtain ⟨P, hP⟩ : ∃ P, P = 2 ^ l := ⟨_, rfl⟩
    rw [← hP] at hpl hpw
    have hpw2 : wrap64 ((2 : Int) ^ l) = (P : Int) := by rw [hpw]; exact wrap64_id (by omega) (by omega)
    have HPW := Hd.mk hpw2
    have HPP := Hd.mk hP
    clear hpw hpw2 hP
    by_cases hbig : P < m
    · have hd1 : decide (wrap64 ((2 : Int) ^ l) < (m : Int)) = true := by rw [HPW.out]; exact decide_eq_true (by omega)
      have hr : Hd (lensN (l : Int) fs = ([], 41)) := ⟨by unfold lensN; rw [if_neg (by omega), if_neg (by rw [HC.out]; decide), if_pos (by rw [HML.out, Int.toNat_natCast, ← HPP.out]; exact hbig)]⟩
      go_wp2
      go_ret2
      rw [hr.out]
      exact ⟨none, 0, 0, rfl, own_nil _ _ _ _, fun k hk => by simp [Value.ownBlock] at hk, K6.out⟩
    · have hd1 : decide (wrap64 ((2 : Int) ^ l) < (m : Int)) = false := by rw [HPW.out]; exact decide_eq_false (by omega)
      have hr : Hd (lensN (l : Int) fs = ((List.range fs.length).map fun s => (lenOf l fs s : Int), 0)) := ⟨by unfold lensN; rw [if_neg (by omega), if_neg (by rw [HC.out]; decide), if_neg (by rw [HML.out, Int.toNat_natCast, ← HPP.out]; exact hbig)]; rfl⟩
      go_upto_region 11 with (refine wpList_make_full _ rfl _ _ 79 rfl 0 3 j0 (.int .i64 0) 1 Tryz.underlying79 hj0 hj1 hj2 .i64 .i64 _ _ fs.length rfl rfl rfl rfl (by rw [hj3]; omega) (by unfold maxLen; omega) (Nat.zero_le _) ?_; intro w2 hown1 hgrow1; have O2 := Hd.mk hown1; have G2 := Hd.mk ((Fr.refl w1 []).grown hgrow1 (by simp)); clear hown1 hgrow1)
      have hglw : Hd (w.heap.size ≤ w1.heap.size) := ⟨K6.out.size⟩
      have K32 := Hd.mk (K3.out.frame G2.out (by simp))
      have K52 : Hd (∀ p ∈ ps0, ROk w2 fs.length p ∧ p.g ≠ w1.heap.size) := ⟨fun p hp => ⟨(K5.out p hp).1.frame G2.out (by simp), by have := blk_lt (K5.out p hp).1; omega⟩⟩
      have F2 := Hd.mk (K6.out.trans G2.out (by simp))
      have hqg : Hd ((Value.slice B m d).ownBlock ≠ some w1.heap.size) := ⟨by intro e; have := hbl.out _ e; omega⟩
      have HB := Hd.mk hbig
      clear K3 K5 K6 G2 hbig hd1 hbl
      generalize w1.heap.size = gl at *
      have hC : Cnt w2 gl fs.length (fun _ => 0) := cnt_of_own (by
        have e : (madeCells (Value.int .i64 0).cells (fs.length * 1)).toList = (List.range fs.length).map fun s => Value.int .i64 ((0 : Nat) : Int) := by
          have e1 := toList_madeCells_one (Value.int .i64 0) (fs.length * 1)
          refine e1.trans ?_
          rw [eq_comm, List.eq_replicate_iff]
          simp
        have := O2.out
        rw [e] at this
        exact this)
      have HCZ := Hd.mk hC
      clear hC
      by_cases hm1 : m = 1
      · have e1 : ((m : Int) == 1) = true := by simp; omega
        have hm1' : m ≤ 1 := by omega
        have hm0 : 0 < m := by omega
        obtain ⟨x, hL⟩ : ∃ x, ps0 = [x] := List.length_eq_one_iff.1 (by rw [K2.out]; omega)
        have hlv : Hd (lvs fs = [x.t]) := ⟨by rw [← K1.out, hL]; rfl⟩
        have hx := (K52.out x (by rw [hL]; simp)).1
        rw [hL] at K32
        obtain ⟨b0, o1, hBe, _, ha⟩ := Sl.row (enc := renc fs.length) (sz := 3) (fun _ => rfl) K32.out (i := 0) (by simp) (by decide)
        have c2 := ha 2 (by decide)
        simp only [List.getElem_cons_zero, renc, List.getElem?_cons_zero, List.getElem?_cons_succ, Nat.zero_mul, Nat.add_zero] at c2
        have HX := Hd.mk hx
        have HM1 := Hd.mk hm1
        clear hL ha hx hm1
        subst hBe
        have HSX : Hd (Sl w2 (some ⟨x.g, 0, none⟩) ((List.range fs.length).map fun s => Value.int .i64 (x.t.cnt s)) (some x.g)) := ⟨by
          have h5 := sl_of_blk (show w2.heap[x.g]? = _ from HX.out)
          simpa [cv] using h5⟩
        go_wp2_with (refine copy_all rfl _ _ rfl gl fs.length fs.length (some ⟨x.g, 0, none⟩) fs.length ((List.range fs.length).map fun s => Value.int .i64 (x.t.cnt s)) _ (some x.g) rfl rfl O2.out (by simp) HSX.out (by intro v hv; simp only [List.mem_map] at hv; obtain ⟨_, _, rfl⟩ := hv; rfl) ?_; intro w3 hO3 hF3; have O3 := Hd.mk hO3; have F3 := Hd.mk (F2.out.trans hF3 (by intro z hz hm; simp at hm; have := hglw.out; omega)); clear hO3 hF3)
        clear c2
        go_wp2
        go_ret2
        rw [hr.out]
        refine ⟨some ⟨gl, 0, none⟩, fs.length, fs.length, rfl, ?_, fun k hk => by cases hk; exact hglw.out, F3.out⟩
        have h5 := O3.out
        have e5 : i64s ((List.range fs.length).map (fun s => (lenOf l fs s : Int))) = (List.range fs.length).map (fun s => Value.int .i64 (x.t.cnt s)) := by
          unfold i64s
          rw [List.map_map]
          refine List.map_congr_left fun s _ => ?_
          simp only [Function.comp]
          unfold lenOf
          rw [HML.out, if_pos HM1.out, hlv.out]
          simp [cl]
        rw [e5]
        exact h5
      · have e1 : ((m : Int) == 1) = false := by simp; omega
        have HM1 := Hd.mk hm1
        by_cases hm2 : m < 2
        · have hm0 : Hd (m = 0) := ⟨by omega⟩
          clear hm1
          go_wp2
          go_ret2
          rw [hr.out]
          refine ⟨some ⟨gl, 0, none⟩, fs.length, fs.length, rfl, ?_, fun k hk => by cases hk; exact hglw.out, F2.out⟩
          have h5 := own_of_cnt (Cnt.congr HCZ.out (fun s => show 0 = lenOf l fs s from by
            unfold lenOf
            rw [HML.out, hm0.out]
            simp [cl])) (by omega)
          exact h5
        · clear hm1 O2
          have hg2 : Hd (gl < w2.heap.size) := ⟨blk_lt HCZ.out⟩
          go_wp2
          go_loopg [10, 11] (l - 1) (fun kq rv iv wr => ∃ (i j : Nat) (R : Option Addr) (nr cr : Nat) (ps : List RI) (qr : Option Nat), rv = .slice R nr cr ∧ iv = .int .i64 (j : Nat) ∧ Hd (j = i + 1) ∧ 1 ≤ j ∧ j + kq = l ∧ nr ≤ cr ∧ nr ≤ 576 ∧ Hd (ps.length = nr) ∧ Hd (ps.map (·.t) = rrow (lvs fs) i) ∧ Hd (Sl wr R (rencs fs.length ps) qr) ∧ Hd (qr ≠ some gl) ∧ Hd (∀ p ∈ ps, ROk wr fs.length p ∧ p.g ≠ gl) ∧ Hd (Fr w2 wr []) ∧ Hd (R = none → nr = 0 ∧ cr = 0))
          case atStart => exact ⟨0, 1, B, m, d, ps0, (Value.slice B m d).ownBlock, rfl, rfl, ⟨rfl⟩, by omega, by omega, hmd, by omega, K2, K1, K32, hqg, K52, ⟨Fr.refl _ _⟩, HBN⟩
          case round =>
            obtain ⟨i, j, R, nr, cr, ps, qr, rfl, rfl, HJ, hj1', hjk, hnr, hnr2, HL, HMP, HSR, HQR, HOK, HF, HRN⟩ := hrel
            by_cases hil : j < l
            · have hwt : Hd (∀ p ∈ ps, p.t.wt ≤ 18014398509481984) := ⟨fun p hp => by
                have h1 : p.t ∈ rrow (lvs fs) i := by rw [← HMP.out]; exact List.mem_map.2 ⟨p, hp, rfl⟩
                have h2 := rrow_wt (lvs_wt HO.out) i p.t h1
                have h3 : 2 ^ i ≤ 2 ^ 14 := Nat.pow_le_pow_right (by decide) (by have := HJ.out; omega)
                have h4 : 2 ^ i * 1099511627776 ≤ 2 ^ 14 * 1099511627776 := Nat.mul_le_mul_right _ h3
                omega⟩
              have hcn : Hd (∀ p ∈ ps, ∀ s, p.t.cnt s ≤ 16384) := ⟨fun p hp s => by
                have h1 : p.t ∈ rrow (lvs fs) i := by rw [← HMP.out]; exact List.mem_map.2 ⟨p, hp, rfl⟩
                have h2 := rrow_cnt (s := s) (L := lvs fs) (fun t ht => by
                  obtain ⟨s', _, rfl, _⟩ := lvs_mem ht
                  simp only [T.cnt]
                  split <;> omega) i p.t h1
                have h3 : 2 ^ i ≤ 2 ^ 14 := Nat.pow_le_pow_right (by decide) (by have := HJ.out; omega)
                omega⟩
              go_wp2_with (fail)
              refine (rpacked_any wr fs.length R nr cr ps qr 18014398509481984 16384 (by omega) HL.out HSR.out (fun p hp => (HOK.out p hp).1) hwt.out (by omega) hcn.out (by omega) (by omega)).mono ?_
              rintro e w5 ⟨R2, n2, c2, ps2, rfl, r1, r2, r3, r4, r5, r6⟩
              have S1 := Hd.mk r1
              have S2 := Hd.mk r2
              have S3 := Hd.mk (sl_of_own3 r3)
              have S5 := Hd.mk r5
              have S6 := Hd.mk r6
              have hn2c : n2 ≤ c2 := by obtain ⟨_, _, e, h, _⟩ := own_slice r3; injection e with _ _ e; omega
              have hn2 : n2 ≤ 1000 := by
                have e2 := congrArg List.length r1
                rw [List.length_map, pk_len, List.length_map, HL.out, r2] at e2
                omega
              have K35 := Hd.mk (K32.out.frame (HF.out.trans r6 (by simp)) (by simp))
              clear r1 r2 r3 r4 r5 r6
              go_wp2_with (fail)
              refine (rmerged_any w5 fs.length B R2 m d n2 c2 ps0 ps2 (Value.slice B m d).ownBlock _ K2.out S2.out hmd hn2c K35.out S3.out (by omega) hn2).mono ?_
              rintro e w6 ⟨R3, n3, c3, rfl, t1, t2, t3, t4⟩
              have U1 : Hd ((mgr ps0 ps2).map (·.t) = mg (lvs fs) (pk (rrow (lvs fs) i))) := ⟨by rw [mgr_map, K1.out, S1.out, HMP.out]⟩
              have U2 := Hd.mk t1
              have U3 := Hd.mk (sl_of_own3 t2)
              have UN : Hd (R3 = none → n3 = 0 ∧ c3 = 0) := ⟨fun h => own_none t2 h⟩
              have hn3c : n3 ≤ c3 := by obtain ⟨_, _, e, h, _⟩ := own_slice t2; injection e with _ _ e; omega
              have U4 : Hd ((Value.slice R3 n3 c3).ownBlock ≠ some gl) := ⟨by
                intro e
                have h1 := t3 gl e
                have h2 := hg2.out
                have h3 := HF.out.size
                have h4 := S6.out.size
                omega⟩
              have U5 : Hd (∀ p ∈ mgr ps0 ps2, ROk w6 fs.length p ∧ p.g ≠ gl) := ⟨fun p hp => by
                rcases List.mem_append.1 ((mgr_perm ps0 ps2).mem_iff.1 hp) with hp | hp
                · exact ⟨((K52.out p hp).1.frame (HF.out.trans S6.out (by simp)) (by simp)).frame t4 (by simp), (K52.out p hp).2⟩
                · exact ⟨(S5.out p hp).1.frame t4 (by simp), by
                    have h1 := (S5.out p hp).2
                    have h2 := hg2.out
                    have h3 := HF.out.size
                    omega⟩⟩
              have U6 := Hd.mk ((HF.out.trans S6.out (by simp)).trans t4 (by simp))
              have hn3 : n3 ≤ 864 := by
                have e2 := congrArg List.length U1.out
                rw [List.length_map, t1, mg_len, pk_len, HML.out] at e2
                have e3 := rrow_len (j := i) HML.out
                omega
              clear t1 t2 t3 t4 S1 S2 S3 S5 S6 K35
              by_cases hcut : 2 * m - 2 < n3
              · have hcutr := run_cut_to (P := Tryz.prog) 248 251 .i64 Tryz.underlying248 hi0 3 hz1 R3 n3 c3 (2 * m - 2) (fun h => (UN.out h).2) (by omega)
                rw [show ((2 * m - 2 : Nat) : Int) = 2 * (m : Int) - 2 from by omega] at hcutr
                have hcc : 2 * (m : Int) - 2 < n3 := by omega
                go_wp2
                clear hcutr
                go_roundg (gk - 1)
                case measure => go_light; omega
                case rel =>
                  go_light
                  refine ⟨i + 1, j + 1, R3, 2 * m - 2, c3, (mgr ps0 ps2).take (2 * m - 2), (Value.slice R3 n3 c3).ownBlock, by first | rfl | (congr 1; omega), by go_num, ⟨by rw [HJ.out]⟩, by omega, by omega, by omega, by omega, ⟨by rw [List.length_take, U2.out]; omega⟩, ⟨by rw [List.map_take, U1.out, rrow, HML.out]⟩, ⟨?_⟩, U4, ⟨fun p hp => U5.out p (List.mem_of_mem_take hp)⟩, U6, ⟨fun h => by have := UN.out h; omega⟩⟩
                  have h5 := U3.out.take ((2 * m - 2) * 3)
                  have h6 : rencs fs.length ((mgr ps0 ps2).take (2 * m - 2)) = (rencs fs.length (mgr ps0 ps2)).take ((2 * m - 2) * 3) := by
                    conv => rhs; rw [← List.take_append_drop (2 * m - 2) (mgr ps0 ps2), rencs_app, List.take_left' (by rw [rencs_len, List.length_take, U2.out, Nat.min_eq_left (by omega)])]
                  rw [h6]; exact h5
              · have hcc : ¬ 2 * (m : Int) - 2 < n3 := by omega
                go_wp2
                go_roundg (gk - 1)
                case measure => go_light; omega
                case rel =>
                  go_light
                  exact ⟨i + 1, j + 1, R3, n3, c3, mgr ps0 ps2, (Value.slice R3 n3 c3).ownBlock, rfl, by go_num, ⟨by rw [HJ.out]⟩, by omega, by omega, hn3c, by omega, U2, ⟨by
                    have e2 := congrArg List.length U1.out
                    rw [List.length_map, U2.out] at e2
                    rw [U1.out, rrow, HML.out, List.take_of_length_le (by omega)]⟩, U3, U4, U5, U6, UN⟩
            · obtain ⟨wo, rfl⟩ : ∃ wo : World, wo = wr := ⟨_, rfl⟩
              have hil2 : Hd (i = l - 1) := ⟨by have := HJ.out; omega⟩
              have hrow : Hd (rrow (lvs fs) i = (row (lvs fs) (l - 1)).take (2 * m - 2)) := ⟨by
                rw [rrow_eq (lvs_sd fs) (by rw [HML.out]; omega), HML.out, hil2.out]⟩
              have hnr3 : Hd (nr = 2 * m - 2) := ⟨by
                have h1 := long (lvs fs) (l - 1) (by rw [show l - 1 + 1 = l from by omega, ← HPP.out, HML.out]; have := HB.out; omega)
                have h2 := congrArg List.length HMP.out
                rw [List.length_map, HL.out, hrow.out, List.length_take] at h2
                rw [HML.out] at h1
                omega⟩
              have hnr4 : 2 * m - 2 ≤ nr := by have := hnr3.out; omega
              have hlo : Hd (∀ s, cl (ps.map (·.t)) s = lenOf l fs s) := ⟨fun s => by
                rw [HMP.out, hrow.out]
                unfold lenOf
                rw [HML.out, if_neg (by omega)]⟩
              have hl15 : Hd (∀ s, lenOf l fs s ≤ 15) := ⟨fun s => by
                have := lenOf_le (fs := fs) (limit := l) (by omega) (by rw [HML.out, ← HPP.out]; have := HB.out; omega) s
                omega⟩
              have C4 := Hd.mk (HCZ.out.frame HF.out (by simp))
              have F4 := Hd.mk (F2.out.trans HF.out (by simp))
              clear K32 K52 HCZ hqg HBN
              go_wp2
              go_loopg [12, 13] (2 * m - 2) (fun kq av _ wv => ∃ a : Nat, av = .int .i64 (a : Nat) ∧ a + kq = 2 * m - 2 ∧ Hd (Cnt wv gl fs.length (fun s => cl ((ps.map (·.t)).take a) s)) ∧ Hd (Fr wo wv [gl]))
              case atStart => exact ⟨0, rfl, by omega, ⟨Cnt.congr C4.out (fun s => by simp [cl])⟩, ⟨Fr.refl _ _⟩⟩
              case round =>
                obtain ⟨a, rfl, hak, HCA, HFa⟩ := hrel
                obtain ⟨gko, rfl⟩ : ∃ gko, gko = gk := ⟨_, rfl⟩
                obtain ⟨wa, rfl⟩ : ∃ wa : World, wa = wr := ⟨_, rfl⟩
                by_cases ham : a < 2 * m - 2
                · have hal : a < ps.length := by rw [HL.out]; omega
                  obtain ⟨x, hx⟩ : ∃ x, x = ps[a] := ⟨_, rfl⟩
                  have hxm : x ∈ ps := by rw [hx]; exact List.getElem_mem _
                  have hsn : ∀ s, cl ((ps.map (·.t)).take (a + 1)) s = cl ((ps.map (·.t)).take a) s + x.t.cnt s := fun s => by
                    rw [cl_take_snoc _ (by rw [List.length_map]; exact hal), List.getElem_map, hx]
                  have hbd : ∀ s, cl ((ps.map (·.t)).take a) s + x.t.cnt s ≤ 15 := fun s => by
                    rw [← hsn s]
                    have h1 := cl_take_le (ps.map (·.t)) (a + 1) s
                    rw [hlo.out s] at h1
                    have h2 := hl15.out s
                    omega
                  obtain ⟨b0, o1, rfl, _, ha⟩ := Sl.row (enc := renc fs.length) (sz := 3) (fun _ => rfl) (HSR.out.frame HFa.out (by intro z hz hm; simp at hm; subst hm; exact HQR.out hz)) hal (by decide)
                  rw [← hx] at ha
                  have c2 := ha 2 (by decide)
                  simp only [renc, List.getElem?_cons_zero, List.getElem?_cons_succ] at c2
                  have hbl : b0 ≠ gl := by
                    intro e
                    obtain ⟨bq, oq, e1, e2, _⟩ := HSR.out (by rw [rencs_len]; omega)
                    cases e1
                    exact HQR.out (by rw [e2, e])
                  have HXM := Hd.mk hxm
                  have HSN := Hd.mk hsn
                  have HBD := Hd.mk hbd
                  have HBL := Hd.mk hbl
                  have HC2 := Hd.mk c2
                  have h2m : (a : Int) < 2 * (m : Int) - 2 := by omega
                  have h2n : (a : Int) < nr := by omega
                  clear ha hx hxm hsn hbd hbl c2
                  go_wp2
                  go_loopg [13] fs.length (fun kq av wv => ∃ k : Nat, av = .int .i64 (k : Nat) ∧ k + kq = fs.length ∧ Hd (Cnt wv gl fs.length (fun s => cl ((ps.map (·.t)).take a) s + upto k x.t.cnt s)) ∧ Hd (Fr wa wv [gl]))
                  case atStart => exact ⟨0, rfl, by omega, ⟨Cnt.congr HCA.out (fun s => by unfold upto; simp)⟩, ⟨Fr.refl _ _⟩⟩
                  case round =>
                    obtain ⟨k, rfl, hk2, HCK, HFk⟩ := hrel
                    by_cases hkN : k < fs.length
                    · have c2 := Fr.cellAt HFk.out (by simpa using HBL.out) HC2.out
                      have cx := Cnt.cell (ROk.frame (ROk.frame (HOK.out x HXM.out).1 HFa.out (by simpa using (HOK.out x HXM.out).2)) HFk.out (by simpa using (HOK.out x HXM.out).2)) hkN
                      have cc := HCK.out.cell hkN
                      have cf := HCK.out.free k
                      obtain ⟨u, hu⟩ : ∃ u, u = cl ((ps.map (·.t)).take a) k + upto k x.t.cnt k := ⟨_, rfl⟩
                      obtain ⟨v, hv⟩ : ∃ v, v = x.t.cnt k := ⟨_, rfl⟩
                      rw [← hu] at cc
                      rw [← hv] at cx
                      have hu0 : upto k x.t.cnt k = 0 := by unfold upto; rw [if_neg (by omega)]
                      have hub : u + v ≤ 15 := by rw [hu, hu0, hv, Nat.add_zero]; exact HBD.out k
                      have hput := HCK.out.put hkN (u + v)
                      have hput2 : Cnt (wr.setCell ⟨gl, k, none⟩ (.int .i64 ((u : Int) + (v : Int)))) gl fs.length (fun s => cl ((ps.map (·.t)).take a) s + upto (k + 1) x.t.cnt s) := Cnt.congr (by rw [show ((u : Int) + (v : Int)) = ((u + v : Nat) : Int) from by omega]; exact hput) (fun s => by
                        by_cases e : s = k
                        · subst e
                          rw [if_pos rfl, hu, hv, hu0]
                          unfold upto
                          rw [if_pos (by omega), Nat.add_zero]
                        · rw [if_neg e]
                          congr 1
                          unfold upto
                          by_cases e2 : s < k
                          · rw [if_pos e2, if_pos (by omega)]
                          · rw [if_neg e2, if_neg (by omega)])
                      have HP2 := Hd.mk (hput2.frame (Fr.refl _ []).drew (by simp))
                      have HF2 := Hd.mk (((HFk.out.setCell (a := ⟨gl, k, none⟩) (.int .i64 ((u : Int) + (v : Int))) (.inl (by simp)))).drew)
                      have m1 : IntKind.i64.wrap ((u : Int) + (v : Int)) = (u : Int) + (v : Int) := IntWalk.i64_in _ (by omega)
                      have m3 : (k : Int) < fs.length := by omega
                      clear hu hv hput hput2 hu0
                      go_upto_region 28 with (fail)
                      go_region
                      clear c2 cx cc cf m1
                      go_wp2
                      go_roundg (gk - 1)
                      case measure => go_light; omega
                      case rel => go_light; exact ⟨k + 1, by go_num, by omega, HP2, HF2⟩
                    · obtain hkN2 : k = fs.length := by omega
                      have HCF : Hd (Cnt wr gl fs.length (fun s => cl ((ps.map (·.t)).take (a + 1)) s)) := ⟨by
                        have h0 := HCK.out
                        unfold Cnt at h0 ⊢
                        rw [h0]
                        congr 2
                        unfold cv
                        congr 1
                        refine List.map_congr_left fun s hs => ?_
                        simp only [HSN.out s]
                        unfold upto
                        rw [if_pos (by rw [hkN2]; simpa using hs)]⟩
                      have HFF := Hd.mk (HFa.out.trans HFk.out (by simp))
                      go_wp2
                      go_roundg (gko - 1)
                      case measure => go_light; omega
                      case rel => go_light; exact ⟨a + 1, by go_num, by omega, HCF, HFF⟩
                · have h2m : ¬ (a : Int) < 2 * (m : Int) - 2 := by omega
                  go_wp2
                  go_ret2
                  rw [hr.out]
                  refine ⟨some ⟨gl, 0, none⟩, fs.length, fs.length, rfl, ?_, fun k hk => by cases hk; exact hglw.out, F4.out.trans HFa.out (fun z hz hm => by simp at hm; have := hglw.out; omega)⟩
                  have h5 := own_of_cnt (Cnt.congr HCA.out (fun s => show _ = lenOf l fs s from by
                    rw [← hlo.out s, List.take_of_length_le (by rw [List.length_map, HL.out]; have := hnr3.out; omega)])) (by omega)
                  exact h5
  · have hr : Hd (lensN (l : Int) fs = ([], cn fs)) := ⟨by unfold lensN; rw [if_neg (by omega), if_pos hc]⟩
    obtain ⟨r0, hr0⟩ : ∃ r0, r0 = cn fs := ⟨_, rfl⟩
    rw [← hr0] at hc hr
    have hcb : (r0 != 0) = true := by simpa using hc
    have HR0 := Hd.mk hr0
    clear hr0 hc hl
    go_enter Tryz.func90, Tryz.ntmps90
    go_wp2_with (fail)
    refine (wrong_any w A fs.length c fs p rfl HS.out hn1).mono ?_
    rintro e w' ⟨rfl, rfl⟩
    rw [← HR0.out]
    go_wp2
    go_ret2
    rw [hr.out]
    exact ⟨none, 0, 0, rfl, own_nil _ _ _ _, fun k hk => by simp [Value.ownBlock] at hk, Fr.refl _ _⟩
end Go.Proofs.YtkdgfioigkijgaaGreat.Lens
