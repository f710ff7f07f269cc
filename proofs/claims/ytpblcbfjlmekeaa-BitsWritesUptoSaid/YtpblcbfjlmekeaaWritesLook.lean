/- The look at both writers. Conditions: fewer than 2^45 bits. -/
import Derived.Test.YtpblcbfjlmekeaaBitsWrites
set_option linter.unusedVariables false
set_option linter.unusedSimpArgs false
set_option maxRecDepth 100000
namespace Go.Proofs.Ytpblcbfjlmekeaa.Bits
open Go.RowKit Go.Proofs.Ytpblcbfjlmekeaa.Lib Go.Proofs.Ytpblcbfjlmekeaa.Num

theorem same_look (w : World) (A : Option Addr) (c : Nat) (B : Option Addr) (d L : Nat) (bs : List Int) (h1 : w.ownsRow 0 5 1 (.slice A L c) L (u8s bs)) (h2 : w.ownsRow 0 5 1 (.slice B L d) L (u8s bs)) (hl : bs.length = L) (hr : ∀ x ∈ bs, 0 ≤ x ∧ x ≤ 255) :
    Calls Try.prog 26 #[.slice A L c, .slice B L d] w fun e w' => e = .returned (.bool true) ∧ w = w' := by
  refine (same_any w A B L L c d bs bs _ _ hl hl hr hr (sl_of_own h1) (sl_of_own h2) (own_none h1) (own_none h2)).mono ?_
  rintro e w' ⟨rfl, rfl⟩
  rw [decide_eq_true rfl]
  exact ⟨rfl, rfl⟩
set_option maxHeartbeats 4000000 in
theorem writes_look (w : World) (g1 g2 N m : Nat) (q1 q2 : Option Nat) (cc v n : Int) (hc : ¬ (0 ≤ cc ∧ cc ≤ 3)) (B : Value) (hm : m + 56 ≤ 70368744177664) (hp : Pw w g1 g2 N m q1 q2) :
    Calls Try.prog 23 #[.pointer (some ⟨g1, 0, none⟩), .pointer (some ⟨g2, 0, none⟩), .agg #[.int .i64 cc, .int .u64 v, .int .i64 n, B]] w fun e w' => e = .returned (.bool true) ∧ WLeft w w' g1 g2 m q1 q2 0 := by
  have HF0 := Hd.mk ((Fr.refl w []).alloc (.cells #[.int .i64 cc, .int .u64 v, .int .i64 n, B] 34))
  have HP0 := Hd.mk (hp.keep HF0.out)
  obtain ⟨L, hL⟩ : ∃ L, L = (m + 7) / 8 := ⟨_, rfl⟩
  have hLm : L ≤ 70368744177664 := by omega
  have HLL := Hd.mk hL
  obtain ⟨bs, hbs⟩ : ∃ bs, bs = bytesOf N m := ⟨_, rfl⟩
  have HBS := Hd.mk hbs
  have hbl : Hd (bs.length = L) := ⟨by rw [hbs, hL, bytesOf_length]⟩
  have hbr : Hd (∀ x ∈ bs, 0 ≤ x ∧ x ≤ 255) := ⟨by rw [hbs]; exact bytesOf_range⟩
  have hc0 : (cc == 0) = false := by simp; omega
  have hc1 : (cc == 1) = false := by simp; omega
  have hc2 : (cc == 2) = false := by simp; omega
  have hc3 : (cc == 3) = false := by simp; omega
  have Hlt := Hd.mk hp.lt
  clear hp hL hbs
  go_enter Try.func23, Try.ntmps23
  go_wp2_with (fail)
  refine (bytes_any (T := 44) (g := g1) (N := N) (m := m) (q := q1) _ (by omega) HP0.out.tl).mono ?_
  rintro e w1 ⟨va, rfl, h1, h2, h3⟩
  rw [← HBS.out, ← HLL.out] at h1
  obtain ⟨Aa, ca, rfl, _⟩ := own_slice h1
  have OA1 := Hd.mk h1
  have HA1 := Hd.mk h2
  have HP1 := Hd.mk (HP0.out.keep h3)
  have HF1 := Hd.mk (HF0.out.trans h3 (by simp))
  have Hw1 : Hd (w.heap.size < w1.heap.size) := ⟨by have := h3.size; simp at this; omega⟩
  clear h1 h2 h3
  go_wp2_with (fail)
  refine (bytes_any (T := 44) (g := g1) (N := N) (m := m) (q := q1) _ (by omega) HP1.out.tl).mono ?_
  rintro e w2 ⟨vb, rfl, h1, h2, h3⟩
  rw [← HBS.out, ← HLL.out] at h1
  obtain ⟨Ab, cb, rfl, _⟩ := own_slice h1
  have OB2 := Hd.mk h1
  have HB2 := Hd.mk h2
  have OA2 := Hd.mk (own_frame OA1.out h3 (by simp))
  have HP2 := Hd.mk (HP1.out.keep h3)
  have HF2 := Hd.mk (HF1.out.trans h3 (by simp))
  clear h1 h2 h3
  go_upto_region 14 with (fail)
  go_cut [11] (fun s11 wc => s11 = .bool true ∧ Hd (Fr w2 wc []))
  case first =>
    obtain ⟨A, c, hb, _⟩ := HP2.out.rw
    have d0 := blk_cell hb 0
    simp only [List.getElem?_toArray, List.getElem?_cons_zero, List.getElem?_cons_succ] at d0
    clear hb
    have HLA := Hd.mk (len_any (T := 44) (g := g1) (N := N) (m := m) (q := q1) w2.drew (by exact HP2.out.tl))
    have HWB1 := Hd.mk (wbytes_any (g := g2) (N := N) (m := m) (q := q2) w2.drew (by omega) (by exact HP2.out.rw))
    rw [← HBS.out, ← HLL.out] at HWB1
    go_region_with (first
      | (go_at_call 17; with_reducible refine (HLA.out).mono ?_; rintro e w' ⟨rfl, rfl⟩)
      | (go_at_call 43; with_reducible refine (HWB1.out).mono ?_; rintro e w3 ⟨v3, rfl, xa, xb, xc⟩; obtain ⟨A3, c3, rfl, _⟩ := own_slice xa; have OA3 := Hd.mk (own_frame OA2.out xc.ofDrew (by simp)); have OB3 := Hd.mk (own_frame OB2.out xc.ofDrew (by simp)); have X3 := Hd.mk xa; have F3 := Hd.mk xc.ofDrew; have HSM1 := Hd.mk (same_look w3 Aa ca A3 c3 L bs OA3.out xa hbl.out hbr.out); have HWB2 := Hd.mk (wbytes_any (g := g2) (N := N) (m := m) (q := q2) w3 (by omega) (HP2.out.keep xc.ofDrew).rw); rw [← HBS.out, ← HLL.out] at HWB2; clear xa xb xc)
      | (go_at_call 26; with_reducible refine (HSM1.out).mono ?_; rintro e w' ⟨rfl, rfl⟩)
      | (go_at_call 43; with_reducible refine (HWB2.out).mono ?_; rintro e w4 ⟨v4, rfl, xa, xb, xc⟩; obtain ⟨A4, c4, rfl, _⟩ := own_slice xa; have OB4 := Hd.mk (own_frame OB3.out xc (by simp)); have F4 := Hd.mk (F3.out.trans xc (by simp)); have HSM2 := Hd.mk (same_look w4 Ab cb A4 c4 L bs OB4.out xa hbl.out hbr.out); clear xa xb xc)
      | (go_at_call 26; with_reducible refine (HSM2.out).mono ?_; rintro e w' ⟨rfl, rfl⟩))
    all_goals (go_wp2; go_meet)
    all_goals exact ⟨rfl, F4⟩
  case rest =>
    obtain ⟨rfl, HFC⟩ := hcut
    have HP3 := Hd.mk (HP2.out.keep HFC.out)
    have OA3 := Hd.mk (own_frame OA2.out HFC.out (by simp))
    have OB3 := Hd.mk (own_frame OB2.out HFC.out (by simp))
    have HF3 := Hd.mk (HF2.out.trans HFC.out (by simp))
    have ha : ∀ k, (Value.slice Aa L ca).ownBlock = some k → w.heap.size < k ∧ k < w1.heap.size := by
      intro k hk
      refine ⟨?_, own_lt OA1.out hk⟩
      rcases HA1.out with e | ⟨j, e, hj⟩
      · rw [hk] at e; cases e
      · rw [hk] at e; cases e; simp at hj; omega
    have hb : ∀ k, (Value.slice Ab L cb).ownBlock = some k → w1.heap.size ≤ k ∧ k < w2.heap.size := by
      intro k hk
      refine ⟨?_, own_lt OB2.out hk⟩
      rcases HB2.out with e | ⟨j, e, hj⟩
      · rw [hk] at e; cases e
      · rw [hk] at e; cases e; omega
    have hw12 : w.heap.size < w1.heap.size := Hw1.out
    have Ha := Hd.mk ha
    have Hb := Hd.mk hb
    clear ha hb
    go_wp2_with (fail)
    refine (own_any _ (some ⟨wc.heap.size, 0, none⟩) 2 2 [⟨Aa, L, ca⟩, ⟨Ab, L, cb⟩] (some wc.heap.size) (fun _ => bs) rfl (by exact sl_of_blk (blk_new wc _)) ?own1 ?own2 ?own3 ?own4 ?own5 (by decide)).mono ?_
    case own1 =>
      intro k hk e
      cases hk
      obtain ⟨i, hi, e⟩ := of_owns e
      have := HFC.out.size
      match i, hi with
      | 0, _ => have := own_lt OA3.out e; omega
      | 1, _ => have := own_lt OB3.out e; omega
    case own2 => intro k hk; cases hk; simp
    case own3 =>
      intro i hi
      match i, hi with
      | 0, _ => exact OA3.out.alloc _
      | 1, _ => exact OB3.out.alloc _
    case own4 =>
      intro i j hi hj hij k h1 h2
      match i, j, hi, hj with
      | 0, 0, _, _ => exact hij rfl
      | 1, 1, _, _ => exact hij rfl
      | 0, 1, _, _ => have := Ha.out k h1; have := Hb.out k h2; omega
      | 1, 0, _, _ => have := Hb.out k h1; have := Ha.out k h2; omega
    case own5 =>
      intro i hi
      match i, hi with
      | 0, _ => exact hLm
      | 1, _ => exact hLm
    rintro e w4 ⟨rfl, h1⟩
    have howns : ∀ k, k ∈ owns [⟨Aa, L, ca⟩, ⟨Ab, L, cb⟩] → w.heap.size < k := by
      intro k hk
      obtain ⟨i, hi, e⟩ := of_owns hk
      match i, hi with
      | 0, _ => exact (Ha.out k e).1
      | 1, _ => have := (Hb.out k e).1; omega
    have HPc := HP3.out.keep ((Fr.refl wc []).alloc (.cells #[.slice Aa L ca, .slice Ab L cb] 32))
    have hblk : ∀ k, k ∈ blks g1 g2 q1 q2 → k ∉ owns [⟨Aa, L, ca⟩, ⟨Ab, L, cb⟩] := by
      intro k hk e
      have := howns k e
      have := Hlt.out k hk
      omega
    have HP4 : Hd (Pw w4 g1 g2 N m q1 q2) := ⟨HPc.tl.frame h1 (hblk _ (mem_blks.2 (.inl rfl))) (fun k hk => hblk k (mem_blks.2 (.inr (.inl hk)))), HPc.rw.frame h1 (hblk _ (mem_blks.2 (.inr (.inr (.inl rfl))))) (fun k hk => hblk k (mem_blks.2 (.inr (.inr (.inr hk)))))⟩
    have HF4 : Hd (Fr w w4 []) := ⟨(HF3.out.alloc _).trans h1 (fun x hx e => by have := howns x e; omega)⟩
    clear h1 HPc hblk howns
    go_wp2_with (fail)
    refine (bytes_any (T := 44) (g := g1) (N := N) (m := m) (q := q1) w4 (by omega) HP4.out.tl).mono ?_
    rintro e w5 ⟨vd, rfl, h1, h2, h3⟩
    rw [← HBS.out, ← HLL.out] at h1
    obtain ⟨Ad, cd, rfl, _⟩ := own_slice h1
    have OD5 := Hd.mk h1
    have HP5 := Hd.mk (HP4.out.keep h3)
    have HF5 := Hd.mk (HF4.out.trans h3 (by simp))
    clear h1 h2 h3
    go_wp2_with (fail)
    refine (wbytes_any (g := g2) (N := N) (m := m) (q := q2) w5 (by omega) HP5.out.rw).mono ?_
    rintro e w6 ⟨ve, rfl, h1, h2, h3⟩
    rw [← HBS.out, ← HLL.out] at h1
    obtain ⟨Ae, ce, rfl, _⟩ := own_slice h1
    have OE6 := Hd.mk h1
    have OD6 := Hd.mk (own_frame OD5.out h3 (by simp))
    have HP6 := Hd.mk (HP5.out.keep h3)
    have HF6 := Hd.mk (HF5.out.trans h3 (by simp))
    clear h1 h2 h3
    go_wp2_with (fail)
    refine (same_look w6 Ad cd Ae ce L bs OD6.out OE6.out hbl.out hbr.out).mono ?_
    rintro e w7 ⟨rfl, rfl⟩
    go_wp2
    go_ret
    exact ⟨rfl, N, m, q1, q2, HP6.out, fun _ h => .inl h, fun _ h => .inl h, HF6.out.mono (by simp), by omega⟩
end Go.Proofs.Ytpblcbfjlmekeaa.Bits
