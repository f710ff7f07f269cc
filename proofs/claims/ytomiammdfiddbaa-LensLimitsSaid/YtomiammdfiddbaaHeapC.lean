/- container/heap over a row of numbers: Init, Pop, Push; lens.merge. Conditions: at most 2^40 numbers. -/
import Derived.Test.YtomiammdfiddbaaHeapB
import Derived.Test.YtomiammdfiddbaaLensE
set_option linter.unusedVariables false
set_option linter.unusedSimpArgs false
set_option maxRecDepth 100000
namespace Go.Proofs.Ytomiammdfiddbaa.Heap
open Go.RowKit Go.Proofs.Ytomiammdfiddbaa.Lib Go.Proofs.Ytomiammdfiddbaa.Ints Go.Proofs.Ytomiammdfiddbaa.Heaps
open Go.Proofs.Ytomiammdfiddbaa.Lens (run_cut_to)
open Go.Proofs.Ytomiammdfiddbaa.Sorts (lst lst_len lst_get sw sw_perm)
theorem Rn.less {w : World} {g n c : Nat} {d : Nat → Int} (h : Rn w g (n + 1) c d) : Rn w g n c d := by
  obtain ⟨cs, h1, h2, h3, h4, h5⟩ := h.block
  exact Rn.mk h1 (by omega) h3 h4 (fun i hi => h5 i (by omega))
theorem Rn.more {w : World} {A : Option Addr} {n c : Nat} {d : Nat → Int} {x : Int} (h : w.ownsRow 0 3 1 (.slice A (n + 1) c) (n + 1) (i64s (lst n d) ++ [.int .i64 x])) : ∃ g, A = some ⟨g, 0, none⟩ ∧ Rn w g (n + 1) c (fun k => if k = n then x else d k) := by
  obtain ⟨g, c', e, _⟩ := own_some h (by omega)
  injection e with e1 _ e3
  subst e1 e3
  refine ⟨g, rfl, ?_⟩
  unfold Rn
  have : i64s (lst (n + 1) (fun k => if k = n then x else d k)) = i64s (lst n d) ++ [.int .i64 x] := by
    rw [lst_succ, i64s_app, if_pos rfl, lst_congr (e := d) (fun i hi => if_neg (by omega))]
    rfl
  rw [this]
  exact h
theorem init_any (w : World) (p g n c : Nat) (d : Nat → Int) (hH : HR w p g n c d) (hn : n ≤ 1099511627776) :
    Calls Try.prog 27 #[.iface 46 (.pointer (some ⟨p, 0, none⟩))] w fun e w' => ∃ d', e = .returned (.tuple #[]) ∧ HR w' p g n c d' ∧ Hq d' n 0 ∧ (lst n d').Perm (lst n d) ∧ Fr w w' [g] := by
  have H := Hd.mk hH
  have ml := mLen w p _ hH.cell
  clear hH
  go_enter Try.func27, Try.ntmps27
  go_wp2_with (fail)
  refine (len_any w _ n c).mono ?_
  rintro e w1 ⟨rfl, rfl⟩
  clear ml
  have e1 : (n : Int).tdiv 2 = ((n / 2 : Nat) : Int) := by rw [Int.tdiv_eq_ediv_of_nonneg (by omega)]; omega
  go_wp2
  go_loopg [3] (n / 2) (fun kq iv wr => ∃ (d1 : Nat → Int), iv = .int .i64 ((kq : Int) - 1) ∧ kq ≤ n / 2 ∧ Hd (HR wr p g n c d1) ∧ Hd (Hq d1 n kq) ∧ Hd ((lst n d1).Perm (lst n d)) ∧ Hd (Fr w wr [g]))
  case atStart => exact ⟨d, by rw [show ((n / 2 : Nat) : Int) = (n : Int) / 2 from by omega], Nat.le_refl _, H, ⟨fun a b h1 h2 h3 => by unfold kid at h2; omega⟩, ⟨List.Perm.refl _⟩, ⟨Fr.refl _ _⟩⟩
  case round =>
    obtain ⟨d1, rfl, hk, HI, HQ, HP, HF⟩ := hrel
    clear H
    by_cases h0 : gk = 0
    · subst h0
      go_wp2
      go_end0
      exact ⟨d1, rfl, HI.out, HQ.out, HP.out, HF.out⟩
    · obtain ⟨k, rfl⟩ : ∃ k, gk = k + 1 := ⟨gk - 1, by omega⟩
      have e2 : (((k + 1 : Nat) : Int) - 1) = (k : Nat) := by omega
      rw [e2]
      clear e2
      go_wp2_with (fail)
      refine (down_any wr p g n c d1 k n HI.out hn (Nat.le_refl _) (by omega) HQ.out).mono ?_
      rintro e w2 ⟨d2, v, rfl, r1, r2, r3, r4, r5⟩
      have H2 := Hd.mk r1
      have Q2 := Hd.mk r2
      have P2 := Hd.mk (r3.trans HP.out)
      have F2 := Hd.mk (HF.out.trans r5 (by simp))
      clear r1 r2 r3 r4 r5
      go_wp2
      go_roundg k
      case measure => omega
      case rel => exact ⟨d2, by go_num, by omega, H2, Q2, P2, F2⟩
theorem wpop_any (w : World) (p g n c : Nat) (d : Nat → Int) (hH : HR w p g (n + 1) c d) (hn : n ≤ 1099511627776) :
    Calls Try.prog 69 #[.pointer (some ⟨p, 0, none⟩)] w fun e w' => e = .returned (.iface 3 (.int .i64 (d n))) ∧ HR w' p g n c d ∧ Fr w w' [p] := by
  obtain ⟨i0, hi0, hz0, hz1, hz2⟩ := info_parts infoI64
  have cp := hH.cell
  have fp := hH.free 0
  have cn := hH.row.cell (i := n) (by omega)
  have hle := hH.row.block
  obtain ⟨x, hx⟩ : ∃ x, x = d n := ⟨_, rfl⟩
  rw [← hx] at cn ⊢
  have hnc : n + 1 ≤ c := by obtain ⟨_, _, h, _⟩ := hle; exact h
  have hcm : c ≤ maxLen := by obtain ⟨_, _, _, h, _⟩ := hle; exact h
  have H := Hd.mk hH
  have HX := Hd.mk hx
  clear hH hle hx
  have cut : ∀ W : World, (Instr.slice 47 (.slice (some ⟨g, 0, none⟩) (n + 1) c) none (some (.int .i64 (n : Nat))) none).run Try.prog W = .ok (.slice (some ⟨g, 0, none⟩) n c) W := by
    exact run_cut_to 47 3 .i64 Try.underlying47 hi0 1 hz1 (some ⟨g, 0, none⟩) (n + 1) c n (fun h => by cases h) (by omega)
  go_enter Try.func69, Try.ntmps69
  go_wp2
  go_ret
  exact ⟨rfl, ⟨blk_set H.out.ptr 0 _, (H.out.row.less).frame ((Fr.refl w [p]).setCell _ (.inl (by simp))) (by simp; exact fun e => H.out.ne e.symm)⟩, (Fr.refl w [p]).setCell _ (.inl (by simp))⟩
def PushPost (w : World) (p g : Nat) (H : World → Nat → Nat → Prop) (e : Ending) (w' : World) : Prop :=
  ∃ g' c', e = .returned (.tuple #[]) ∧ H w' g' c' ∧ (g' = g ∨ w.heap.size ≤ g') ∧ Fr w w' [p, g]
theorem push_done {w W0 w1 : World} {p g n c : Nat} {d : Nat → Int} {x : Int} {A' : Option Addr} {c' : Nat} (H : HR w p g n c d) (hF : Fr w W0 []) (hb : w1.heap[p]? = some (.cells #[.slice (some ⟨g, 0, none⟩) n c] 47 (0, 0)))
    (ho : w1.ownsRow 0 3 1 (.slice A' (n + 1) c') (n + 1) (i64s (lst n d) ++ [.int .i64 x])) (hg : W0.grownBy w1 (Value.slice (some ⟨g, 0, none⟩) n c).ownBlock) (ha : Aft W0 (Value.slice (some ⟨g, 0, none⟩) n c).ownBlock (Value.slice A' (n + 1) c').ownBlock) :
    PushPost w p g (fun w' g' c' => HR w' p g' (n + 1) c' (fun k => if k = n then x else d k)) (.returned (.tuple #[])) (w1.setCell ⟨p, 0, none⟩ (.slice A' (n + 1) c')) := by
  obtain ⟨g', rfl, R⟩ := Rn.more ho
  obtain ⟨cs, h1, _⟩ := R.block
  have hne : p ≠ g' := blk_ne hb h1 (by decide)
  unfold PushPost
  refine ⟨g', c', rfl, ⟨blk_set hb 0 _, R.frame ((Fr.refl w1 [p]).setCell _ (.inl (by simp))) (by simp; exact fun e => hne e.symm)⟩, ?_, ?_⟩
  · rcases ha with e | ⟨k, e, hk⟩
    · simp [Value.ownBlock] at e; exact .inl e
    · simp [Value.ownBlock] at e; subst e; exact .inr (Nat.le_trans hF.size hk)
  · exact ((hF.mono (G := [p, g]) (fun k _ h => by cases h)).grown hg (fun k hk => by simp [Value.ownBlock] at hk; subst hk; exact .inl (by simp))).setCell _ (.inl (by simp))
theorem assert_int (v : Value) : ∀ W : World, (Instr.typeAssert (.iface 3 v) 20 3 false).run Try.prog W = .ok v W := fun W => by kernel_rfl
theorem wpush_any (w : World) (p g n c : Nat) (d : Nat → Int) (x : Int) (hH : HR w p g n c d) (hn : n ≤ 1099511627776) :
    Calls Try.prog 70 #[.pointer (some ⟨p, 0, none⟩), .iface 3 (.int .i64 x)] w (PushPost w p g (fun w' g' c' => HR w' p g' (n + 1) c' (fun k => if k = n then x else d k))) := by
  obtain ⟨i0, hi0, hz0, hz1, hz2⟩ := info_parts infoI64
  have cp := hH.cell
  have fp := hH.free 0
  have H := Hd.mk hH
  have ass := assert_int (.int .i64 x)
  have cp2 : (w.alloc (.cells #[.int .i64 x] 3)).cell? ⟨p, 0, none⟩ = some (.slice (some ⟨g, 0, none⟩) n c) := by rw [blk_cell (blk_alloc H.out.ptr _)]; rfl
  clear hH
  go_enter Try.func70, Try.ntmps70
  go_upto_region 0 with (fail)
  go_region_law (refine step_append_sl rfl (.tmp 7) (.tmp 10) 47 rfl 3 i0 (.int .i64 0) 1 8 Try.underlying47 hi0 hz0 hz1 hz2 rfl (by decide) (.slice (some ⟨g, 0, none⟩) n c) n (i64s (lst n d)) (by simp [Act.eval, Act.put]) (by exact H.out.row.alloc _) (some ⟨w.heap.size, 0, none⟩) 1 1 [.int .i64 x] (some w.heap.size) (by simp [Act.eval, Act.put]) rfl (by exact sl_of_blk (blk_new _ _)) (by intro h; cases h) (by intro u hu; simp at hu; subst hu; rfl) (by unfold maxLen; omega) (by omega) ?_; intro A' c' w1 hown' hgrow haft; have hb1 := blk_grown hgrow (by exact blk_alloc H.out.ptr _) (by simp [Value.ownBlock]; exact H.out.ne); have k1 := blk_cell hb1 0; have f1 := blk_frozen hb1 0; simp only [List.getElem?_toArray, List.getElem?_cons_zero] at k1; have HB1 := Hd.mk hb1; have HO1 := Hd.mk hown'; have HG1 := Hd.mk hgrow; have HA1 := Hd.mk haft; clear hown' hgrow haft hb1)
  all_goals
    go_wp2
    go_end0
    exact push_done H.out (by first | exact ((Fr.refl w []).alloc _).drew | exact (Fr.refl w []).drew.alloc _) HB1.out HO1.out HG1.out HA1.out
theorem hpop_any (w : World) (p g n c : Nat) (d : Nat → Int) (hH : HR w p g (n + 1) c d) (hq : Hq d (n + 1) 0) (hn : n ≤ 1000000000) :
    Calls Try.prog 38 #[.iface 46 (.pointer (some ⟨p, 0, none⟩))] w fun e w' => ∃ d', e = .returned (.iface 3 (.int .i64 (d 0))) ∧ HR w' p g n c d' ∧ Hq d' n 0 ∧ (d 0 :: lst n d').Perm (lst (n + 1) d) ∧ Fr w w' [p, g] := by
  have H := Hd.mk hH
  have Q := Hd.mk hq
  have ml := mLen w p _ hH.cell
  have ms := mSwap w p _ hH.cell
  clear hH hq
  go_enter Try.func38, Try.ntmps38
  go_wp2_with (fail)
  refine (len_any w _ (n + 1) c).mono ?_
  rintro e w1 ⟨rfl, rfl⟩
  clear ml
  go_wp2_with (fail)
  refine (swap_any w g (n + 1) c d 0 n H.out.row (by omega) (by omega) (by omega)).mono ?_
  rintro e w1 ⟨rfl, r1, q1⟩
  have H1 : Hd (HR w1 p g (n + 1) c (sw d 0 n)) := ⟨⟨q1.blk H.out.ptr (by simp; exact H.out.ne), r1⟩⟩
  have F1 := Hd.mk q1
  clear r1 q1 ms
  have Q1 : Hd (Hq (sw d 0 n) n (0 + 1)) := ⟨fun a b h1 h2 h3 => by
    have hk : a < b := by unfold kid at h2; omega
    rw [sw_o d (by omega) (by omega), sw_o d (by omega) (by omega)]
    exact Q.out a b (Nat.zero_le _) h2 (by omega)⟩
  go_wp2_with (fail)
  refine (down_any w1 p g (n + 1) c (sw d 0 n) 0 n H1.out (by omega) (by omega) (by omega) Q1.out).mono ?_
  rintro e w2 ⟨d2, v, rfl, r1, r2, r3, r4, r5⟩
  have hd2 : d 0 = d2 n := by rw [r4 n (Nat.le_refl _), sw_r]
  have H2 := Hd.mk r1
  have Q2 := Hd.mk r2
  have F2 := Hd.mk (F1.out.trans r5 (by simp))
  have P2 : Hd ((d 0 :: lst n d2).Perm (lst (n + 1) d)) := ⟨by
    refine List.Perm.trans ?_ (sw_perm (n := n + 1) (i := 0) (j := n) (d := d) (by omega) (by omega))
    rw [lst_succ, sw_r]
    exact (List.Perm.cons _ r3).trans (List.perm_append_comm (l₁ := [d 0]))⟩
  have HD2 := Hd.mk hd2
  clear r1 r2 r3 r4 r5 hd2
  have mp := mPop w2 p
  go_wp2_with (fail)
  refine (wpop_any w2 p g n c d2 H2.out (by omega)).mono ?_
  rintro e w3 ⟨rfl, r1, r2⟩
  have H3 := Hd.mk r1
  have F3 : Hd (Fr w w3 [p, g]) := ⟨(F2.out.mono (G := [p, g]) (fun k _ h => by simp at h ⊢; exact .inr h)).trans r2 (fun x _ h => by simp at h ⊢; exact .inl h)⟩
  clear r1 r2 mp
  go_wp2
  go_ret
  exact ⟨d2, by rw [HD2.out]; rfl, H3.out, Q2.out, P2.out, F3.out⟩
theorem hpush_any (w : World) (p g n c : Nat) (d : Nat → Int) (x : Int) (hH : HR w p g n c d) (hq : Hq d n 0) (hn : n ≤ 1000000000) :
    Calls Try.prog 39 #[.iface 46 (.pointer (some ⟨p, 0, none⟩)), .iface 3 (.int .i64 x)] w (PushPost w p g fun w' g' c' => ∃ d', HR w' p g' (n + 1) c' d' ∧ Hq d' (n + 1) 0 ∧ (lst (n + 1) d').Perm (x :: lst n d)) := by
  have H := Hd.mk hH
  have Q := Hd.mk hq
  have mp := mPush w p
  clear hH hq
  go_enter Try.func39, Try.ntmps39
  go_wp2_with (fail)
  refine (wpush_any w p g n c d x H.out (by omega)).mono ?_
  rintro e w1 ⟨g1, c1, rfl, r1, r2, r3⟩
  have H1 := Hd.mk r1
  have F1 := Hd.mk r3
  have G1 := Hd.mk r2
  have U1 : Hd (Up (fun k => if k = n then x else d k) (n + 1) n) := ⟨Up.start fun a b h1 h2 h3 => by
    have hk : a < b := by unfold kid at h2; omega
    simp only [show ¬ a = n by omega, show ¬ b = n by omega, if_false]
    exact Q.out a b h1 h2 h3⟩
  have ml := mLen w1 p _ r1.cell
  clear r1 r2 r3 mp
  go_wp2_with (fail)
  refine (len_any w1 _ (n + 1) c1).mono ?_
  rintro e w2 ⟨rfl, rfl⟩
  clear ml
  go_wp2_with (fail)
  refine (up_any w1 p g1 (n + 1) c1 _ n H1.out (by omega) (by omega) U1.out).mono ?_
  rintro e w2 ⟨d2, rfl, r1, r2, r3, r4⟩
  have P2 : Hd ((lst (n + 1) d2).Perm (x :: lst n d)) := ⟨by
    refine r3.trans ?_
    rw [lst_succ, if_pos rfl, lst_congr (e := d) (fun i hi => if_neg (by omega))]
    exact List.perm_append_comm⟩
  have H2 := Hd.mk r1
  have Q2 := Hd.mk r2
  have F2 : Hd (Fr w w2 [p, g]) := ⟨F1.out.trans r4 (fun y hy h => by
    simp at h ⊢
    rcases G1.out with e | e
    · right; omega
    · omega)⟩
  clear r1 r2 r3 r4
  go_wp2
  go_end0
  unfold PushPost
  exact ⟨g1, c1, rfl, ⟨d2, H2.out, Q2.out, P2.out⟩, G1.out, F2.out⟩
def MergePost (w : World) (p g n : Nat) (d : Nat → Int) (e : Ending) (w' : World) : Prop :=
  ∃ (a b : Int) (r : List Int) (g' c' : Nat) (d' : Nat → Int), e = .returned (.int .i64 (a + b)) ∧ (lst (n + 2) d).Perm (a :: b :: r) ∧ a ≤ b ∧ (∀ x ∈ r, b ≤ x) ∧ HR w' p g' (n + 1) c' d' ∧ Hq d' (n + 1) 0 ∧ (lst (n + 1) d').Perm ((a + b) :: r) ∧ (g' = g ∨ w.heap.size ≤ g') ∧ Fr w w' [p, g]
theorem merge_any (w : World) (p g n c : Nat) (d : Nat → Int) (hH : HR w p g (n + 2) c d) (hq : Hq d (n + 2) 0) (hn : n ≤ 1000000) (hb : ∀ i, i < n + 2 → 0 ≤ d i ∧ d i ≤ 2305843009213693952) :
    Calls Try.prog 28 #[.iface 46 (.pointer (some ⟨p, 0, none⟩))] w (MergePost w p g n d) := by
  have H := Hd.mk hH
  have Q := Hd.mk hq
  have B := Hd.mk hb
  clear hH hq hb
  go_enter Try.func28, Try.ntmps28
  go_wp2_with (fail)
  refine (hpop_any w p g (n + 1) c d H.out Q.out (by omega)).mono ?_
  rintro e w1 ⟨d1, rfl, r1, r2, r3, r4⟩
  have H1 := Hd.mk r1
  have Q1 := Hd.mk r2
  have P1 := Hd.mk r3
  have F1 := Hd.mk r4
  clear r1 r2 r3 r4
  obtain ⟨a, ha⟩ : ∃ a, a = d 0 := ⟨_, rfl⟩
  obtain ⟨b, hb⟩ : ∃ b, b = d1 0 := ⟨_, rfl⟩
  have ass := assert_int (.int .i64 a)
  have assb := assert_int (.int .i64 b)
  have hab : 0 ≤ a ∧ a ≤ 2305843009213693952 := by rw [ha]; exact B.out 0 (by omega)
  have hbb : 0 ≤ b ∧ b ≤ 2305843009213693952 ∧ a ≤ b := by
    have : b ∈ lst (n + 2) d := P1.out.mem_iff.1 (List.mem_cons_of_mem _ (by rw [hb]; exact lst_in (by omega)))
    obtain ⟨i, hi, e⟩ := lst_mem this
    rw [e, ha]
    exact ⟨(B.out i hi).1, (B.out i hi).2, Q.out.min i hi⟩
  rw [← ha]
  rw [← ha] at P1
  have HB2 := Hd.mk hb
  have HA2 := Hd.mk ha
  clear ha hb
  go_wp2_with (fail)
  refine (hpop_any w1 p g n c d1 H1.out Q1.out (by omega)).mono ?_
  rintro e w2 ⟨d2, rfl, r1, r2, r3, r4⟩
  rw [← HB2.out] at r3 ⊢
  have H2 := Hd.mk r1
  have Q2 := Hd.mk r2
  have P2 := Hd.mk r3
  have F2 := Hd.mk (F1.out.trans r4 (fun x _ h => h))
  clear r1 r2 r3 r4
  go_wp2_with (fail)
  refine (hpush_any w2 p g n c d2 (a + b) H2.out Q2.out (by omega)).mono ?_
  rintro e w3 ⟨g3, c3, rfl, ⟨d3, r1, r2, r3⟩, r4, r5⟩
  have H3 := Hd.mk r1
  have Q3 := Hd.mk r2
  have P3 := Hd.mk r3
  have G3 := Hd.mk r4
  have F3 := Hd.mk (F2.out.trans r5 (fun x _ h => h))
  clear r1 r2 r3 r4 r5
  go_wp2
  go_ret
  unfold MergePost
  refine ⟨a, b, lst n d2, g3, c3, d3, rfl, P1.out.symm.trans (List.Perm.cons a P2.out.symm), hbb.2.2, fun x hx => ?_, H3.out, Q3.out, P3.out, ?_, F3.out⟩
  · have : x ∈ lst (n + 1) d1 := P2.out.mem_iff.1 (List.mem_cons_of_mem _ hx)
    obtain ⟨i, hi, e⟩ := lst_mem this
    rw [e, HB2.out]
    exact Q1.out.min i hi
  · rcases G3.out with e | e
    · exact .inl e
    · exact .inr (Nat.le_trans F2.out.size e)
end Go.Proofs.Ytomiammdfiddbaa.Heap
