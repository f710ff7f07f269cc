/- One call of both writers: Align, Whole, and the look at them. Conditions: fewer than 2^45 bits. -/
import Derived.Test.YtpblcbfjlmekeaaBitsWrites
set_option linter.unusedVariables false
set_option linter.unusedSimpArgs false
set_option maxRecDepth 100000
namespace Go.Proofs.Ytpblcbfjlmekeaa.Bits
open Go.RowKit Go.Proofs.Ytpblcbfjlmekeaa.Lib Go.Proofs.Ytpblcbfjlmekeaa.Num

set_option maxHeartbeats 1000000 in
theorem writes_align (w : World) (g1 g2 N m : Nat) (q1 q2 : Option Nat) (v n : Int) (B : Value) (hm : m + 56 ≤ 70368744177664) (hp : Pw w g1 g2 N m q1 q2) :
    Calls Try.prog 23 #[.pointer (some ⟨g1, 0, none⟩), .pointer (some ⟨g2, 0, none⟩), .agg #[.int .i64 2, .int .u64 v, .int .i64 n, B]] w fun e w' => e = .returned (.bool true) ∧ WLeft w w' g1 g2 m q1 q2 0 := by
  have HF0 := Hd.mk ((Fr.refl w []).alloc (.cells #[.int .i64 2, .int .u64 v, .int .i64 n, B] 34))
  have HP0 := Hd.mk (hp.keep HF0.out)
  obtain ⟨k, hk⟩ : ∃ k, k = (8 - m % 8) % 8 := ⟨_, rfl⟩
  have HK := Hd.mk hk
  have hk7 : k ≤ 7 := by omega
  clear hp hk
  go_enter Try.func23, Try.ntmps23
  go_wp2_with (fail)
  refine (align_any (T := 44) (g := g1) (N := N) (m := m) (q := q1) _ (by omega) HP0.out.tl).mono ?_
  rintro e w1 ⟨rfl, q1', h1, h2, h3⟩
  rw [← HK.out] at h1 ⊢
  have H1 := Hd.mk h1
  have H2 := Hd.mk h2
  have H3 := Hd.mk h3
  clear h1 h2 h3
  go_wp2_with (fail)
  refine (walign_any (g := g2) (N := N) (m := m) (q := q2) w1 (by omega) (HP0.out.rw2 H3.out)).mono ?_
  rintro e w2 ⟨rfl, q2', h1, h2, h3⟩
  rw [← HK.out] at h1 ⊢
  have K1 := Hd.mk h1
  have K2 := Hd.mk h2
  have K3 := Hd.mk h3
  clear h1 h2 h3
  go_wp2
  go_ret
  obtain ⟨p1, p2, p3, p4⟩ := HP0.out.two H1.out H2.out H3.out K1.out K2.out K3.out
  exact ⟨rfl, _, _, _, _, p1, fun k hk => (p2 k hk).imp id (fun e => by simp at e; omega), fun k hk => (p3 k hk).imp id (fun e => by simp at e; omega), HF0.out.both p4 (by simp) (fun _ _ h => h), by omega⟩
set_option maxHeartbeats 1000000 in
theorem writes_whole (w : World) (g1 g2 N m : Nat) (q1 q2 : Option Nat) (v n : Int) (A : Option Addr) (l c : Nat) (xs : List Int) (qb : Option Nat) (hS : SlArg w A l c (u8s xs) qb) (hx : ∀ x ∈ xs, 0 ≤ x ∧ x ≤ 255) (hm : m + 56 + 8 * l ≤ 70368744177664)
    (hs : ∀ k, qb = some k → k ∉ blks g1 g2 q1 q2) (hp : Pw w g1 g2 N m q1 q2) :
    Calls Try.prog 23 #[.pointer (some ⟨g1, 0, none⟩), .pointer (some ⟨g2, 0, none⟩), .agg #[.int .i64 3, .int .u64 v, .int .i64 n, .slice A l c]] w fun e w' => e = .returned (.bool true) ∧ WLeft w w' g1 g2 m q1 q2 l := by
  have hlt := hp.lt
  have hlen : xs.length = l := by have := hS.len; simpa [u8s] using this
  have HF0 := Hd.mk ((Fr.refl w []).alloc (.cells #[.int .i64 3, .int .u64 v, .int .i64 n, .slice A l c] 34))
  have hbx : Hd ((w.alloc (.cells #[.int .i64 3, .int .u64 v, .int .i64 n, .slice A l c] 34)).heap[w.heap.size]? = some (.cells #[.int .i64 3, .int .u64 v, .int .i64 n, .slice A l c] 34 (0, 0))) := ⟨blk_new _ _⟩
  have HP0 := Hd.mk (hp.keep HF0.out)
  have HS0 := Hd.mk (hS.frame HF0.out (by simp))
  have hnb : Hd (w.heap.size ∉ blks g1 g2 q1 q2) := ⟨fun e => by have := hlt _ e; omega⟩
  have HL := Hd.mk hlt
  have HX := Hd.mk hx
  have HN := Hd.mk hlen
  have HB := Hd.mk hs
  obtain ⟨k, hk⟩ : ∃ k, k = (8 - m % 8) % 8 := ⟨_, rfl⟩
  have HK := Hd.mk hk
  have hk7 : k ≤ 7 := by omega
  clear hp hk hlt hS hx hlen hs
  go_enter Try.func23, Try.ntmps23
  go_wp2_with (fail)
  refine (lend_any _ A l c xs qb HS0.out (by omega)).mono ?_
  rintro e w1 ⟨g, d, rfl, h1, h2, h3⟩
  have hg : w.heap.size < g := by simp at h2; omega
  have HP1 := Hd.mk (HP0.out.keep h3)
  have HS1 := Hd.mk (HS0.out.frame h3 (by simp))
  have HBX1 := Hd.mk (h3.blk hbx.out (by simp))
  have HW1 := Hd.mk h1
  have HF1 := Hd.mk (HF0.out.trans h3 (by simp))
  have HT1 : Hd (Sl w1 (some ⟨g, 0, none⟩) (u8s xs) (some g)) := ⟨by
    have := (sl_of_own h1).take xs.length
    rw [u8s_app, List.take_left' (by simp [u8s])] at this
    exact this⟩
  have hgb : Hd (g ∉ blks g1 g2 q1 q2) := ⟨fun e => by have := HL.out _ e; omega⟩
  clear h1 h2 h3
  obtain rfl : l = xs.length := HN.out.symm
  go_wp2_with (fail)
  refine (whole_any (T := 44) (g := g1) (N := N) (m := m) (q := q1) w1 (some ⟨g, 0, none⟩) d xs (some g) HX.out HT1.out (by intro h; cases h) (by intro j hj e; cases hj; exact hgb.out (by unfold blks; exact List.mem_append_left _ e)) (by omega) HP1.out.tl).mono ?_
  rintro e w2 ⟨rfl, q1', h1, h2, h3⟩
  have hk3 := blk_cell (h3.blk HBX1.out (by intro e; exact hnb.out (by unfold blks; exact List.mem_append_left _ e))) 3
  simp only [List.getElem?_toArray, List.getElem?_cons_zero, List.getElem?_cons_succ] at hk3
  rw [← HK.out] at h1
  have H1 := Hd.mk h1
  have H2 := Hd.mk h2
  have H3 := Hd.mk h3
  have HS2 := Hd.mk (HS1.out.frame h3 (fun j hj e => HB.out j hj (by unfold blks; exact List.mem_append_left _ e)))
  clear h1 h2 h3
  go_wp2_with (fail)
  refine (wwhole_any (g := g2) (N := N) (m := m) (q := q2) w2 A xs.length c xs qb rfl HX.out HS2.out.sl (fun j hj e => HB.out j hj (by unfold blks; exact List.mem_append_right _ e)) (by omega) (HP1.out.rw2 H3.out)).mono ?_
  rintro e w3 ⟨rfl, q2', h1, h2, h3⟩
  have hk4 := blk_cell (h3.blk (H3.out.blk HBX1.out (by intro e; exact hnb.out (by unfold blks; exact List.mem_append_left _ e))) (by intro e; exact hnb.out (by unfold blks; exact List.mem_append_right _ e))) 3
  simp only [List.getElem?_toArray, List.getElem?_cons_zero, List.getElem?_cons_succ] at hk4
  rw [← HK.out] at h1
  obtain ⟨p1, p2, p3, p4⟩ := HP1.out.two H1.out H2.out H3.out h1 h2 h3
  have HP3 := Hd.mk p1
  have HP4 := Hd.mk p2
  have HP5 := Hd.mk p3
  have HP6 := Hd.mk p4
  have HS3 := Hd.mk (HS1.out.frame p4 HB.out)
  have HW3 := Hd.mk (own_frame HW1.out p4 (by intro j hj; cases hj; exact hgb.out))
  clear h1 h2 h3 p1 p2 p3 p4 hk3
  go_wp2_with (fail)
  refine (kept_any w3 A xs.length c xs qb HS3.out (by omega) HX.out (some ⟨g, 0, none⟩) (xs.length + 5) d (xs ++ lendTail) (some g) (by rw [List.length_append]; rfl) (sl_of_own HW3.out) (by intro h; cases h) (lend_range HX.out) (by intro j hj; exact own_lt HW3.out hj)).mono ?_
  rintro e w4 ⟨rfl, h1⟩
  rw [decide_eq_true rfl]
  have HP7 := Hd.mk (HP3.out.keep h1)
  have HF4 := Hd.mk (HP6.out.trans h1 (by simp))
  clear h1 hk4
  go_wp2
  go_ret
  have := HF1.out.size
  exact ⟨rfl, _, _, _, _, HP7.out, fun k hk => (HP4.out k hk).imp id (fun e => by omega), fun k hk => (HP5.out k hk).imp id (fun e => by omega), HF1.out.both HF4.out (by simp) (fun _ _ h => h), by omega⟩
end Go.Proofs.Ytpblcbfjlmekeaa.Bits
