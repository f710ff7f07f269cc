/- One call of both writers: Put. Conditions: fewer than 2^45 bits. -/
import Derived.Test.YtpblcbfjlmekeaaBitsWrites
set_option linter.unusedVariables false
set_option linter.unusedSimpArgs false
set_option maxRecDepth 100000
namespace Go.Proofs.Ytpblcbfjlmekeaa.Bits
open Go.RowKit Go.Proofs.Ytpblcbfjlmekeaa.Lib Go.Proofs.Ytpblcbfjlmekeaa.Num

set_option maxHeartbeats 16000000 in
theorem writes_put (w : World) (g1 g2 N m : Nat) (q1 q2 : Option Nat) (v : Nat) (n : Int) (B : Value) (hm : m + 56 ≤ 70368744177664) (hp : Pw w g1 g2 N m q1 q2) :
    Calls Try.prog 23 #[.pointer (some ⟨g1, 0, none⟩), .pointer (some ⟨g2, 0, none⟩), .agg #[.int .i64 0, .int .u64 (v : Nat), .int .i64 n, B]] w fun e w' => e = .returned (.bool true) ∧ WLeft w w' g1 g2 m q1 q2 0 := by
  have hlt := hp.lt
  have HF0 := Hd.mk ((Fr.refl w []).alloc (.cells #[.int .i64 0, .int .u64 (v : Nat), .int .i64 n, B] 34))
  have hbx : Hd ((w.alloc (.cells #[.int .i64 0, .int .u64 (v : Nat), .int .i64 n, B] 34)).heap[w.heap.size]? = some (.cells #[.int .i64 0, .int .u64 (v : Nat), .int .i64 n, B] 34 (0, 0))) := ⟨blk_new _ _⟩
  have HP0 := Hd.mk (hp.keep HF0.out)
  have hn1 : Hd (w.heap.size ∉ g1 :: q1.toList) := ⟨fun e => by have := hlt _ (by unfold blks; exact List.mem_append_left _ e); omega⟩
  have hn2 : Hd (w.heap.size ∉ g2 :: q2.toList) := ⟨fun e => by have := hlt _ (by unfold blks; exact List.mem_append_right _ e); omega⟩
  obtain ⟨mn, hmn⟩ : ∃ mn, mn = mayN v n := ⟨_, rfl⟩
  have HMN := Hd.mk hmn
  have HPD := Hd.mk (HP0.out.keep (Fr.refl _ _).drew)
  clear hp hlt hmn
  go_enter Try.func23, Try.ntmps23
  go_wp2
  have H1A := Hd.mk (put_all (T := 44) (g := g1) (N := N) (m := m) (q := q1) n v (w.alloc (.cells #[.int .i64 0, .int .u64 (v : Nat), .int .i64 n, B] 34)).drew (by omega) (by exact HP0.out.tl))
  have H2A := Hd.mk (wput_all (g := g2) (N := N) (m := m) (q := q2) n v (w.alloc (.cells #[.int .i64 0, .int .u64 (v : Nat), .int .i64 n, B] 34)).drew hm (by exact HP0.out.rw))
  rw [← HMN.out] at H1A H2A
  go_region_with (first
    | (go_at_call 16; with_reducible refine (H1A.out).mono ?_; rintro e w2 ⟨rfl, q1', xa, xb, xc⟩; have hk1 := blk_cell (xc.blk hbx.out hn1.out) 1; have hk2 := blk_cell (xc.blk hbx.out hn1.out) 2; simp only [List.getElem?_toArray, List.getElem?_cons_zero, List.getElem?_cons_succ] at hk1 hk2; have A1 := Hd.mk xa; have A2 := Hd.mk xb; have A3 := Hd.mk xc; have H2B := Hd.mk (wput_all (g := g2) (N := N) (m := m) (q := q2) n v w2 hm (Pw.rw2 (w := (w.alloc (.cells #[.int .i64 0, .int .u64 (v : Nat), .int .i64 n, B] 34)).drew) HPD.out xc)); rw [← HMN.out] at H2B; clear xa xb xc)
    | (go_at_call 39; with_reducible refine (H2A.out).mono ?_; rintro e w2 ⟨rfl, q2', xa, xb, xc⟩; have hk1 := blk_cell (xc.blk hbx.out hn2.out) 1; have hk2 := blk_cell (xc.blk hbx.out hn2.out) 2; simp only [List.getElem?_toArray, List.getElem?_cons_zero, List.getElem?_cons_succ] at hk1 hk2; have B1 := Hd.mk xa; have B2 := Hd.mk xb; have B3 := Hd.mk xc; have H1B := Hd.mk (put_all (T := 44) (g := g1) (N := N) (m := m) (q := q1) n v w2 (by omega) (Pw.tl2 (w := (w.alloc (.cells #[.int .i64 0, .int .u64 (v : Nat), .int .i64 n, B] 34)).drew) HPD.out xc)); rw [← HMN.out] at H1B; clear xa xb xc)
    | (go_at_call 39; with_reducible refine (H2B.out).mono ?_; rintro e w3 ⟨rfl, q2', xa, xb, xc⟩; have B1 := Hd.mk xa; have B2 := Hd.mk xb; have B3 := Hd.mk xc; clear xa xb xc)
    | (go_at_call 16; with_reducible refine (H1B.out).mono ?_; rintro e w3 ⟨rfl, q1', xa, xb, xc⟩; have A1 := Hd.mk xa; have A2 := Hd.mk xb; have A3 := Hd.mk xc; clear xa xb xc))
  all_goals go_wp2
  all_goals go_ret
  all_goals
    refine ⟨rfl, ?_⟩
    have hk := putK_le v n
    first
      | (obtain ⟨p1, p2, p3, p4⟩ := HP0.out.two (by exact A1.out) (by exact A2.out) (by exact A3.out.ofDrew) B1.out B2.out B3.out
         exact ⟨_, _, _, _, p1, fun k hk => (p2 k hk).imp id (fun e => by simp at e; omega), fun k hk => (p3 k hk).imp id (fun e => by simp at e; omega), HF0.out.both p4 (by simp) (fun _ _ h => h), by omega⟩)
      | (obtain ⟨p1, p2, p3, p4⟩ := HP0.out.two' (by exact B1.out) (by exact B2.out) (by exact B3.out.ofDrew) A1.out A2.out A3.out
         exact ⟨_, _, _, _, p1, fun k hk => (p2 k hk).imp id (fun e => by simp at e; omega), fun k hk => (p3 k hk).imp id (fun e => by simp at e; omega), HF0.out.both p4 (by simp) (fun _ _ h => h), by omega⟩)
end Go.Proofs.Ytpblcbfjlmekeaa.Bits
