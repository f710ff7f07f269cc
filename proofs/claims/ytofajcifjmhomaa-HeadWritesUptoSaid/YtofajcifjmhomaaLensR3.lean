/- Two rows merged, as the document has it (chapter 04). Conditions: at most 1000 items a row. -/
import Derived.Test.YtofajcifjmhomaaLensR2
set_option linter.unusedVariables false
set_option linter.unusedSimpArgs false
set_option maxRecDepth 100000
namespace Go.Proofs.Ytofajcifjmhomaa.Lens
open Go.RowKit Go.Proofs.Ytofajcifjmhomaa.Lib Go.Proofs.Ytofajcifjmhomaa.Ints Go.Proofs.Ytofajcifjmhomaa.Sorts Go.Proofs.Ytofajcifjmhomaa.Sort Go.Proofs.Ytofajcifjmhomaa.Pm Go.Proofs.Ytofajcifjmhomaa.Num

def mgr (a b : List RI) : List RI := a.merge b (fun p q => le p.t q.t)
theorem mgr_map (a b : List RI) : (mgr a b).map (·.t) = mg (a.map (·.t)) (b.map (·.t)) := by
  unfold mgr mg
  induction a generalizing b with
  | nil => simp
  | cons x a iha =>
    induction b with
    | nil => simp
    | cons y b ihb =>
      rw [List.cons_merge_cons, List.map_cons, List.map_cons, List.cons_merge_cons]
      by_cases h : le x.t y.t = true
      · rw [if_pos h, if_pos h, List.map_cons, iha (y :: b), List.map_cons]
      · rw [if_neg h, if_neg h, List.map_cons, ihb, List.map_cons]
theorem mgr_perm (a b : List RI) : (mgr a b).Perm (a ++ b) := List.merge_perm_append _
theorem mgr_a {x : RI} {a b : List RI} (h : ∀ y ∈ b.head?, x.t.wt ≤ y.t.wt) : mgr (x :: a) b = x :: mgr a b := by
  unfold mgr
  cases b with
  | nil => simp
  | cons y b => rw [List.cons_merge_cons, if_pos (by unfold le; simpa using h y (by simp))]
theorem mgr_b {y : RI} {a b : List RI} (h : ∀ x ∈ a.head?, ¬ x.t.wt ≤ y.t.wt) : mgr a (y :: b) = y :: mgr a b := by
  unfold mgr
  cases a with
  | nil => simp
  | cons x a => rw [List.cons_merge_cons, if_neg (by unfold le; simpa using h x (by simp))]
theorem Sl.cutr {w : World} {A : Option Addr} {N : Nat} {ps : List RI} {q : Option Nat} {n c : Nat} (h : Sl w A (rencs N ps) q) (hl : ps.length = n) (hnc : n ≤ c) (hk : 0 < n) : Sl w (cutA A c 1 3) (rencs N (ps.drop 1)) q := by
  intro hx
  rw [rencs_len, List.length_drop] at hx
  obtain ⟨b, off, rfl, hq, hc⟩ := h (by rw [rencs_len]; omega)
  have e : rencs N (ps.drop 1) = (rencs N ps).drop 3 := by
    cases ps with
    | nil => rfl
    | cons p ps => simp [rencs, renc]
  refine ⟨b, off + 3, ?_, hq, fun j hj => ?_⟩
  · unfold cutA
    rw [if_neg (by omega)]
    simp [Addr.add_lit]
  · rw [e] at hj ⊢
    rw [List.length_drop, rencs_len] at hj
    rw [Nat.add_assoc, hc (3 + j) (by rw [rencs_len]; omega), List.getElem?_drop]
def MPost (w : World) (N : Nat) (ps qs : List RI) (e : Ending) (w' : World) : Prop :=
  ∃ B m d, e = .returned (.slice B m d) ∧ (mgr ps qs).length = m ∧ w'.ownsRow 0 141 3 (.slice B m d) m (rencs N (mgr ps qs)) ∧ (∀ k, (Value.slice B m d).ownBlock = some k → w.heap.size ≤ k) ∧ Fr w w' []
set_option maxHeartbeats 4000000 in
theorem rmerged_any (w : World) (N : Nat) (A B : Option Addr) (n c m d : Nat) (ps qs : List RI) (qa qb : Option Nat) (hn : ps.length = n) (hm : qs.length = m) (hnc : n ≤ c) (hmd : m ≤ d) (hS : Sl w A (rencs N ps) qa) (hT : Sl w B (rencs N qs) qb) (hn1 : n ≤ 1000) (hm1 : m ≤ 1000) :
    Calls Try.prog 78 #[.slice A n c, .slice B m d] w (MPost w N ps qs) := by
  subst hn hm
  have HS := Hd.mk hS
  have HT := Hd.mk hT
  clear hS hT
  obtain ⟨i0, hi0, hz0, hz1, hz2⟩ := info_parts infoRItem
  go_enter Try.func78, Try.ntmps78
  go_wp2
  go_loopg [0, 1, 5] (ps.length + qs.length) (fun kq av bv lv wr => ∃ (A1 : Option Addr) (n1 c1 : Nat) (B1 : Option Addr) (m1 d1 : Nat) (L1 : Option Addr) (k dl : Nat) (xs ys P : List RI), av = .slice A1 n1 c1 ∧ bv = .slice B1 m1 d1 ∧ lv = .slice L1 k dl ∧ n1 ≤ c1 ∧ m1 ≤ d1 ∧ n1 + m1 ≤ kq ∧ k + n1 + m1 ≤ 2000 ∧ Hd (xs.length = n1) ∧ Hd (ys.length = m1) ∧ Hd (P.length = k) ∧ Hd (Sl w A1 (rencs N xs) qa) ∧ Hd (Sl w B1 (rencs N ys) qb) ∧ Hd (P ++ mgr xs ys = mgr ps qs) ∧ Hd (wr.ownsRow 0 141 3 (.slice L1 k dl) k (rencs N P)) ∧ Hd (∀ z, (Value.slice L1 k dl).ownBlock = some z → w.heap.size ≤ z) ∧ Hd (Fr w wr []))
  case atStart => exact ⟨A, ps.length, c, B, qs.length, d, none, 0, 0, ps, qs, [], rfl, rfl, rfl, hnc, hmd, by omega, by omega, ⟨rfl⟩, ⟨rfl⟩, ⟨rfl⟩, HS, HT, ⟨rfl⟩, ⟨own_nil _ _ _ _⟩, ⟨fun k hk => by simp [Value.ownBlock] at hk⟩, ⟨Fr.refl _ _⟩⟩
  case round =>
    obtain ⟨A1, n1, c1, B1, m1, d1, L1, k, dl, xs, ys, P, rfl, rfl, rfl, hnc1, hmd1, hk, hkl, HLX, HLY, HLP, HSX, HSY, HM, HW, HB, HF⟩ := hrel
    by_cases hx0 : 0 < n1
    · by_cases hy0 : 0 < m1
      · have hm0 : ((m1 : Int) == 0) = false := by simp; omega
        have hxl : 0 < xs.length := by rw [HLX.out]; exact hx0
        obtain ⟨b0, o1, rfl, _, hax⟩ := Sl.row (enc := renc N) (sz := 3) (fun _ => rfl) (HSX.out.frame HF.out (by simp)) (i := 0) hxl (by decide)
        obtain ⟨x, hxe⟩ : ∃ x, x = xs[0] := ⟨_, rfl⟩
        rw [← hxe] at hax
        have cx0 := hax 0 (by decide)
        have cx1 := hax 1 (by decide)
        have cx2 := hax 2 (by decide)
        simp only [renc, List.getElem?_cons_zero, List.getElem?_cons_succ, Nat.add_zero, Nat.zero_mul] at cx0 cx1 cx2
        have xe : Hd (xs = x :: xs.drop 1) := ⟨by rw [hxe, ← List.drop_eq_getElem_cons hxl, List.drop_zero]⟩
        have hcutx := run_cut_from (P := Try.prog) 138 141 .i64 Try.underlying138 hi0 3 hz1 (some ⟨b0, o1, none⟩) n1 c1 1 (by omega)
        rw [show ((1 : Nat) : Int) = 1 from rfl] at hcutx
        clear hax hxe
        have hyl : 0 < ys.length := by rw [HLY.out]; exact hy0
        obtain ⟨b1, o2, rfl, _, hay⟩ := Sl.row (enc := renc N) (sz := 3) (fun _ => rfl) (HSY.out.frame HF.out (by simp)) (i := 0) hyl (by decide)
        obtain ⟨y, hye⟩ : ∃ y, y = ys[0] := ⟨_, rfl⟩
        rw [← hye] at hay
        have cy0 := hay 0 (by decide)
        have cy1 := hay 1 (by decide)
        have cy2 := hay 2 (by decide)
        simp only [renc, List.getElem?_cons_zero, List.getElem?_cons_succ, Nat.add_zero, Nat.zero_mul] at cy0 cy1 cy2
        have ye : Hd (ys = y :: ys.drop 1) := ⟨by rw [hye, ← List.drop_eq_getElem_cons hyl, List.drop_zero]⟩
        have hcuty := run_cut_from (P := Try.prog) 138 141 .i64 Try.underlying138 hi0 3 hz1 (some ⟨b1, o2, none⟩) m1 d1 1 (by omega)
        rw [show ((1 : Nat) : Int) = 1 from rfl] at hcuty
        clear hay hye
        by_cases hle : x.t.wt ≤ y.t.wt
        · have hd : decide ((x.t.wt : Int) ≤ (y.t.wt : Int)) = true := decide_eq_true (by omega)
          have HST : Hd (mgr xs ys = x :: mgr (xs.drop 1) ys) := ⟨by
            conv => lhs; rw [xe.out]
            exact mgr_a (fun z hz => by rw [ye.out] at hz; simp at hz; subst hz; exact hle)⟩
          go_upto_region 3 with (fail)
          go_region
          clear hd hm0 cy0 cy1 cy2 hcuty
          go_wp2_with (at_builtin; refine wpList_append_sl rfl (.tmp 33) (.tmp 37) 138 rfl 141 i0 (.agg #[.int .i64 0, .bool false, .slice none 0 0]) 3 40 Try.underlying138 hi0 hz0 hz1 hz2 rfl (by decide) (.slice L1 k dl) k _ rfl (by exact HW.out.alloc _) (some ⟨_, 0, none⟩) 1 1 (renc N x) (some _) rfl rfl (by exact sl_of_blk (blk_new _ _)) (by intro h; cases h) (by intro u hu; simp only [renc, List.mem_cons, List.not_mem_nil, or_false] at hu; rcases hu with rfl | rfl | rfl <;> rfl) (by unfold maxLen; omega) (by omega) ?_; intro A3 d3 w3 hown' hgrow haft; have O3 := Hd.mk hown'; have G3 := Hd.mk hgrow; have F4 := Hd.mk haft; clear hown' hgrow haft)
          clear cx0 cx1 cx2 hcutx
          go_roundg (gk - 1)
          case measure => go_light; omega
          case rel =>
            go_light
            refine ⟨_, n1 - 1, c1 - 1, _, _, _, A3, k + 1, d3, xs.drop 1, ys, P ++ [x], rfl, rfl, rfl, by omega, by omega, by omega, by omega, ⟨by rw [List.length_drop, HLX.out]⟩, HLY, ⟨by rw [List.length_append, HLP.out]; rfl⟩, ⟨Sl.cutr HSX.out HLX.out hnc1 hx0⟩, HSY, ⟨?_⟩, ⟨?_⟩, ⟨fun z hz => ?_⟩, ⟨Fr.grown (w := w) (F := []) (by first | exact HF.out.alloc _ | exact (HF.out.alloc _).drew | exact HF.out.drew.alloc _ | exact (HF.out.drewN _).alloc _) G3.out (fun z hz => .inr (HB.out z hz))⟩⟩
            · rw [← HM.out, HST.out, List.append_assoc]; rfl
            · rw [rencs_app]; have h7 := O3.out; simpa [rencs] using h7
            · rcases F4.out with h | ⟨u, h, hu⟩
              · rw [h] at hz; exact HB.out z hz
              · rw [h] at hz; cases hz
                have := HF.out.size
                simp at hu
                omega
        · have hd : decide ((x.t.wt : Int) ≤ (y.t.wt : Int)) = false := decide_eq_false (by omega)
          have HST : Hd (mgr xs ys = y :: mgr xs (ys.drop 1)) := ⟨by
            conv => lhs; rw [ye.out]
            exact mgr_b (fun z hz => by rw [xe.out] at hz; simp at hz; subst hz; exact hle)⟩
          go_upto_region 3 with (fail)
          go_region
          clear hd hm0 cx0 cx1 cx2 hcutx
          go_wp2_with (at_builtin; refine wpList_append_sl rfl (.tmp 41) (.tmp 45) 138 rfl 141 i0 (.agg #[.int .i64 0, .bool false, .slice none 0 0]) 3 40 Try.underlying138 hi0 hz0 hz1 hz2 rfl (by decide) (.slice L1 k dl) k _ rfl (by exact HW.out.alloc _) (some ⟨_, 0, none⟩) 1 1 (renc N y) (some _) rfl rfl (by exact sl_of_blk (blk_new _ _)) (by intro h; cases h) (by intro u hu; simp only [renc, List.mem_cons, List.not_mem_nil, or_false] at hu; rcases hu with rfl | rfl | rfl <;> rfl) (by unfold maxLen; omega) (by omega) ?_; intro A3 d3 w3 hown' hgrow haft; have O3 := Hd.mk hown'; have G3 := Hd.mk hgrow; have F4 := Hd.mk haft; clear hown' hgrow haft)
          clear cy0 cy1 cy2 hcuty
          go_roundg (gk - 1)
          case measure => go_light; omega
          case rel =>
            go_light
            refine ⟨_, _, _, _, m1 - 1, d1 - 1, A3, k + 1, d3, xs, ys.drop 1, P ++ [y], rfl, rfl, rfl, by omega, by omega, by omega, by omega, HLX, ⟨by rw [List.length_drop, HLY.out]⟩, ⟨by rw [List.length_append, HLP.out]; rfl⟩, HSX, ⟨Sl.cutr HSY.out HLY.out hmd1 hy0⟩, ⟨?_⟩, ⟨?_⟩, ⟨fun z hz => ?_⟩, ⟨Fr.grown (w := w) (F := []) (by first | exact HF.out.alloc _ | exact (HF.out.alloc _).drew | exact HF.out.drew.alloc _ | exact (HF.out.drewN _).alloc _) G3.out (fun z hz => .inr (HB.out z hz))⟩⟩
            · rw [← HM.out, HST.out, List.append_assoc]; rfl
            · rw [rencs_app]; have h7 := O3.out; simpa [rencs] using h7
            · rcases F4.out with h | ⟨u, h, hu⟩
              · rw [h] at hz; exact HB.out z hz
              · rw [h] at hz; cases hz
                have := HF.out.size
                simp at hu
                omega
      · obtain rfl : m1 = 0 := by omega
        have hy00 : ys = [] := List.eq_nil_of_length_eq_zero HLY.out
        subst hy00
        have hm0 : (((0 : Nat) : Int) == 0) = true := by simp
        have hxl : 0 < xs.length := by rw [HLX.out]; exact hx0
        obtain ⟨b0, o1, rfl, _, hax⟩ := Sl.row (enc := renc N) (sz := 3) (fun _ => rfl) (HSX.out.frame HF.out (by simp)) (i := 0) hxl (by decide)
        obtain ⟨x, hxe⟩ : ∃ x, x = xs[0] := ⟨_, rfl⟩
        rw [← hxe] at hax
        have cx0 := hax 0 (by decide)
        have cx1 := hax 1 (by decide)
        have cx2 := hax 2 (by decide)
        simp only [renc, List.getElem?_cons_zero, List.getElem?_cons_succ, Nat.add_zero, Nat.zero_mul] at cx0 cx1 cx2
        have xe : Hd (xs = x :: xs.drop 1) := ⟨by rw [hxe, ← List.drop_eq_getElem_cons hxl, List.drop_zero]⟩
        have hcutx := run_cut_from (P := Try.prog) 138 141 .i64 Try.underlying138 hi0 3 hz1 (some ⟨b0, o1, none⟩) n1 c1 1 (by omega)
        rw [show ((1 : Nat) : Int) = 1 from rfl] at hcutx
        clear hax hxe
        have HST : Hd (mgr xs [] = x :: mgr (xs.drop 1) []) := ⟨by
          conv => lhs; rw [xe.out]
          exact mgr_a (fun z hz => by simp at hz)⟩
        go_upto_region 3 with (fail)
        go_region
        clear hm0
        go_wp2_with (at_builtin; refine wpList_append_sl rfl (.tmp 33) (.tmp 37) 138 rfl 141 i0 (.agg #[.int .i64 0, .bool false, .slice none 0 0]) 3 40 Try.underlying138 hi0 hz0 hz1 hz2 rfl (by decide) (.slice L1 k dl) k _ rfl (by exact HW.out.alloc _) (some ⟨_, 0, none⟩) 1 1 (renc N x) (some _) rfl rfl (by exact sl_of_blk (blk_new _ _)) (by intro h; cases h) (by intro u hu; simp only [renc, List.mem_cons, List.not_mem_nil, or_false] at hu; rcases hu with rfl | rfl | rfl <;> rfl) (by unfold maxLen; omega) (by omega) ?_; intro A3 d3 w3 hown' hgrow haft; have O3 := Hd.mk hown'; have G3 := Hd.mk hgrow; have F4 := Hd.mk haft; clear hown' hgrow haft)
        clear cx0 cx1 cx2 hcutx
        go_roundg (gk - 1)
        case measure => go_light; omega
        case rel =>
          go_light
          refine ⟨_, n1 - 1, c1 - 1, _, _, _, A3, k + 1, d3, xs.drop 1, [], P ++ [x], rfl, rfl, rfl, by omega, by omega, by omega, by omega, ⟨by rw [List.length_drop, HLX.out]⟩, HLY, ⟨by rw [List.length_append, HLP.out]; rfl⟩, ⟨Sl.cutr HSX.out HLX.out hnc1 hx0⟩, HSY, ⟨?_⟩, ⟨?_⟩, ⟨fun z hz => ?_⟩, ⟨Fr.grown (w := w) (F := []) (by first | exact HF.out.alloc _ | exact (HF.out.alloc _).drew | exact HF.out.drew.alloc _ | exact (HF.out.drewN _).alloc _) G3.out (fun z hz => .inr (HB.out z hz))⟩⟩
          · rw [← HM.out, HST.out, List.append_assoc]; rfl
          · rw [rencs_app]; have h7 := O3.out; simpa [rencs] using h7
          · rcases F4.out with h | ⟨u, h, hu⟩
            · rw [h] at hz; exact HB.out z hz
            · rw [h] at hz; cases hz
              have := HF.out.size
              simp at hu
              omega
    · obtain rfl : n1 = 0 := by omega
      have hx00 : xs = [] := List.eq_nil_of_length_eq_zero HLX.out
      subst hx00
      by_cases hy0 : 0 < m1
      · have hm0 : ((m1 : Int) == 0) = false := by simp; omega
        have hyl : 0 < ys.length := by rw [HLY.out]; exact hy0
        obtain ⟨b1, o2, rfl, _, hay⟩ := Sl.row (enc := renc N) (sz := 3) (fun _ => rfl) (HSY.out.frame HF.out (by simp)) (i := 0) hyl (by decide)
        obtain ⟨y, hye⟩ : ∃ y, y = ys[0] := ⟨_, rfl⟩
        rw [← hye] at hay
        have cy0 := hay 0 (by decide)
        have cy1 := hay 1 (by decide)
        have cy2 := hay 2 (by decide)
        simp only [renc, List.getElem?_cons_zero, List.getElem?_cons_succ, Nat.add_zero, Nat.zero_mul] at cy0 cy1 cy2
        have ye : Hd (ys = y :: ys.drop 1) := ⟨by rw [hye, ← List.drop_eq_getElem_cons hyl, List.drop_zero]⟩
        have hcuty := run_cut_from (P := Try.prog) 138 141 .i64 Try.underlying138 hi0 3 hz1 (some ⟨b1, o2, none⟩) m1 d1 1 (by omega)
        rw [show ((1 : Nat) : Int) = 1 from rfl] at hcuty
        clear hay hye
        have HST : Hd (mgr [] ys = y :: mgr [] (ys.drop 1)) := ⟨by
          conv => lhs; rw [ye.out]
          exact mgr_b (fun z hz => by simp at hz)⟩
        go_upto_region 3 with (fail)
        go_region
        clear hm0
        go_wp2_with (at_builtin; refine wpList_append_sl rfl (.tmp 41) (.tmp 45) 138 rfl 141 i0 (.agg #[.int .i64 0, .bool false, .slice none 0 0]) 3 40 Try.underlying138 hi0 hz0 hz1 hz2 rfl (by decide) (.slice L1 k dl) k _ rfl (by exact HW.out.alloc _) (some ⟨_, 0, none⟩) 1 1 (renc N y) (some _) rfl rfl (by exact sl_of_blk (blk_new _ _)) (by intro h; cases h) (by intro u hu; simp only [renc, List.mem_cons, List.not_mem_nil, or_false] at hu; rcases hu with rfl | rfl | rfl <;> rfl) (by unfold maxLen; omega) (by omega) ?_; intro A3 d3 w3 hown' hgrow haft; have O3 := Hd.mk hown'; have G3 := Hd.mk hgrow; have F4 := Hd.mk haft; clear hown' hgrow haft)
        clear cy0 cy1 cy2 hcuty
        go_roundg (gk - 1)
        case measure => go_light; omega
        case rel =>
          go_light
          refine ⟨_, _, _, _, m1 - 1, d1 - 1, A3, k + 1, d3, [], ys.drop 1, P ++ [y], rfl, rfl, rfl, by omega, by omega, by omega, by omega, HLX, ⟨by rw [List.length_drop, HLY.out]⟩, ⟨by rw [List.length_append, HLP.out]; rfl⟩, HSX, ⟨Sl.cutr HSY.out HLY.out hmd1 hy0⟩, ⟨?_⟩, ⟨?_⟩, ⟨fun z hz => ?_⟩, ⟨Fr.grown (w := w) (F := []) (by first | exact HF.out.alloc _ | exact (HF.out.alloc _).drew | exact HF.out.drew.alloc _ | exact (HF.out.drewN _).alloc _) G3.out (fun z hz => .inr (HB.out z hz))⟩⟩
          · rw [← HM.out, HST.out, List.append_assoc]; rfl
          · rw [rencs_app]; have h7 := O3.out; simpa [rencs] using h7
          · rcases F4.out with h | ⟨u, h, hu⟩
            · rw [h] at hz; exact HB.out z hz
            · rw [h] at hz; cases hz
              have := HF.out.size
              simp at hu
              omega
      · obtain rfl : m1 = 0 := by omega
        have hy00 : ys = [] := List.eq_nil_of_length_eq_zero HLY.out
        subst hy00
        go_wp2
        go_ret
        have hP : P = mgr ps qs := by have := HM.out; simpa [mgr] using this
        have hl := HLP.out
        have hw := HW.out
        rw [hP] at hl hw
        unfold MPost
        exact ⟨L1, k, dl, rfl, hl, hw, HB.out, HF.out⟩
end Go.Proofs.Ytofajcifjmhomaa.Lens
