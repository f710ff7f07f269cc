/- What tokens cost: the law's own costs, walked. Conditions: prices in bounds, at most 2^20 tokens. -/
import Derived.Test.YtbfdokklhdmmoaaLzLeast0
import Derived.Test.YtbfdokklhdmmoaaLzCheapP
set_option linter.unusedVariables false
set_option linter.unusedSimpArgs false
set_option maxRecDepth 100000
namespace Go.Proofs.Ytbfdokklhdmmoaa.Lz
open Go.RowKit Go.Maps Go.Proofs.Ytbfdokklhdmmoaa.Lib Go.Proofs.Ytbfdokklhdmmoaa.Num Go.Proofs.Ytbfdokklhdmmoaa.Bits

theorem costL_app (c : Pr) : ∀ a b : List Tok, costL c (a ++ b) = costL c a + costL c b
  | [], b => by simp [costL]
  | t :: a, b => by
    have := costL_app c a b
    simp only [costL, List.cons_append, List.map_cons, List.sum_cons] at this ⊢
    omega
theorem costL_take {c : Pr} {l : List Tok} {j : Nat} (h : j < l.length) : costL c (l.take (j + 1)) = costL c (l.take j) + tcost c l[j] := by
  rw [List.take_succ_eq_append_getElem h, costL_app]
  simp [costL]
set_option maxHeartbeats 8000000 in
theorem costs_any (w : World) (A : Option Addr) (n cc : Nat) (ts : List Tok) (p : Option Nat) (hn : ts.length = n) (hS : Sl w A (tcells ts) p) (c : Pr) (hc : PrOk c) (hd : ∀ t ∈ ts, 0 ≤ t.dist ∧ t.dist ≤ 32768) (hb : n ≤ 1048576) (v : Int) (hv : v = costL c ts) :
    Calls Try.prog 35 #[.slice A n cc, .agg #[.int .i64 c.lit, .int .i64 c.mat, .int .i64 c.far]] w fun e w' => e = .returned (.int .i64 v) ∧ Fr w w' [] := by
  subst hn
  have HS := Hd.mk hS
  have HPK := Hd.mk hc
  have HDI := Hd.mk hd
  have HV := Hd.mk hv
  clear hS hc hd hv
  have F0 := (Fr.refl w []).alloc (.cells #[.int .i64 c.lit, .int .i64 c.mat, .int .i64 c.far] 65)
  have hp0 := blk_new w (.cells #[.int .i64 c.lit, .int .i64 c.mat, .int .i64 c.far] 65)
  go_enter Try.func35, Try.ntmps35
  go_upto_region 1 with (fail)
  obtain ⟨pb, hpb⟩ : ∃ pb, pb = w.heap.size := ⟨_, rfl⟩
  rw [← hpb] at hp0 ⊢
  generalize hw0 : w.alloc (.cells #[.int .i64 c.lit, .int .i64 c.mat, .int .i64 c.far] 65) = w1
  rw [hw0] at F0 hp0
  have F1 := Hd.mk F0
  have P1 := Hd.mk hp0
  clear F0 hp0 hw0 hpb
  obtain ⟨x0, hx0⟩ : ∃ x0, x0 = c.lit := ⟨_, rfl⟩
  obtain ⟨x1, hx1⟩ : ∃ x1, x1 = c.mat := ⟨_, rfl⟩
  obtain ⟨x2, hx2⟩ : ∃ x2, x2 = c.far := ⟨_, rfl⟩
  have hx : (0 ≤ x0 ∧ x0 ≤ 1048576) ∧ (0 ≤ x1 ∧ x1 ≤ 1048576) ∧ 0 ≤ x2 ∧ x2 ≤ 1048576 := by
    obtain ⟨h1, h2, h3, h4, h5, h6⟩ := HPK.out
    omega
  have HX0 := Hd.mk hx0
  have HX1 := Hd.mk hx1
  have HX2 := Hd.mk hx2
  rw [← hx0, ← hx1, ← hx2] at P1
  clear hx0 hx1 hx2
  go_wp2
  go_loopg [5, 11] ts.length (fun kq sv jv wr => ∃ (j : Nat) (m : Int), sv = .int .i64 m ∧ jv = .int .i64 (j : Nat) ∧ j + kq = ts.length ∧ 0 ≤ m ∧ m ≤ 68157440 * j ∧ Hd (m = costL c (ts.take j)) ∧ Hd (Fr w1 wr []))
  case atStart => exact ⟨0, 0, rfl, rfl, by omega, by omega, by omega, ⟨by simp [costL]⟩, ⟨Fr.refl _ _⟩⟩
  case round =>
    obtain ⟨j, m, rfl, rfl, hj, hm0, hm1, HM, HF⟩ := hrel
    obtain ⟨g0, rfl⟩ : ∃ g0 : Nat, g0 = gk := ⟨_, rfl⟩
    by_cases h1 : j < ts.length
    · obtain ⟨a, o1, rfl, _, ha⟩ := Sl.row (enc := tcell) (sz := 3) (fun _ => rfl) (HS.out.frame (F1.out.trans HF.out (by simp)) (by simp)) h1 (by decide)
      obtain ⟨t, ht⟩ : ∃ t, t = ts[j] := ⟨_, rfl⟩
      have htm : t ∈ ts := by rw [ht]; exact List.getElem_mem h1
      rw [← ht] at ha
      have c0 := ha 0 (by decide)
      have c1 := ha 1 (by decide)
      have c2 := ha 2 (by decide)
      simp only [tcell, List.getElem?_cons_zero, List.getElem?_cons_succ, Nat.add_zero] at c0 c1 c2
      have hdb := HDI.out t htm
      have HST : Hd (costL c (ts.take (j + 1)) = m + tcost c t) := ⟨by rw [costL_take h1, ← HM.out, ht]⟩
      have htb := tcost_bound HPK.out t
      obtain ⟨dd, hdd⟩ : ∃ dd : Nat, t.dist = (dd : Nat) := ⟨t.dist.toNat, by omega⟩
      obtain ⟨lt, hlt⟩ : ∃ lt, lt = t.len := ⟨_, rfl⟩
      obtain ⟨tl, htl⟩ : ∃ tl, tl = t.lit := ⟨_, rfl⟩
      have hddb : dd ≤ 32768 := by omega
      rw [hdd] at c2
      rw [← hlt] at c1
      rw [← htl] at c0
      have HTC : Hd (tcost c t = if lt = 0 then x0 else x1 + x2 * (bitLen dd : Nat)) := ⟨by unfold tcost; rw [hdd, Int.toNat_natCast, ← hlt, HX0.out, HX1.out, HX2.out]⟩
      obtain ⟨tc, htc⟩ : ∃ tc, tc = tcost c t := ⟨_, rfl⟩
      rw [← htc] at HST htb HTC
      clear ha ht htm hdb hdd hlt htl htc
      go_upto_region 5 with (fail)
      have N1 := blk_new wr (.cells #[.int .u8 tl, .int .i64 lt, .int .i64 (dd : Nat)] 56)
      have F2 := Hd.mk (HF.out.alloc (.cells #[.int .u8 tl, .int .i64 lt, .int .i64 (dd : Nat)] 56))
      generalize wr.alloc (.cells #[.int .u8 tl, .int .i64 lt, .int .i64 (dd : Nat)] 56) = w2 at *
      generalize wr.heap.size = tb at *
      have n1 := blk_cell N1 1
      have n2 := blk_cell N1 2
      have q0 := blk_cell (F2.out.blk P1.out (by simp)) 0
      have q1 := blk_cell (F2.out.blk P1.out (by simp)) 1
      have q2 := blk_cell (F2.out.blk P1.out (by simp)) 2
      simp only [List.getElem?_toArray, List.getElem?_cons_zero, List.getElem?_cons_succ] at n1 n2 q0 q1 q2
      clear N1 c0 c1 c2
      by_cases hl0 : lt = 0
      · have hz : (lt == 0) = true := by simp; exact hl0
        have HT2 : Hd (tc = x0) := ⟨by rw [HTC.out, if_pos hl0]⟩
        clear hl0
        go_wp2
        go_roundg (g0 - 1)
        case measure => omega
        case rel => exact ⟨j + 1, m + x0, by go_num, by go_num, by omega, by omega, by push_cast; omega, ⟨by rw [HST.out, HT2.out]⟩, F2⟩
      · have hz : (lt == 0) = false := by simp; exact hl0
        have HT2 : Hd (tc = x1 + x2 * (bitLen dd : Nat)) := ⟨by rw [HTC.out, if_neg hl0]⟩
        obtain ⟨b1, hb1⟩ : ∃ b1, b1 = m + x1 := ⟨_, rfl⟩
        have HB1 := Hd.mk hb1
        have hb1b : 0 ≤ b1 ∧ b1 ≤ 71500000000000 := by omega
        have HD2 : Hd (dd < 2 ^ 64) := ⟨by omega⟩
        clear hl0 hb1
        go_wp2
        go_loopg [5, 8] 64 (fun kq sv dv wr => ∃ (y r : Nat) (s : Int), sv = .int .i64 s ∧ dv = .int .i64 (y : Nat) ∧ r + kq = 64 ∧ y ≤ 32768 ∧ Hd (y < 2 ^ kq) ∧ 0 ≤ s ∧ s ≤ 71500000000000 + 1048576 * r ∧ Hd (s = b1 + x2 * (r : Nat)) ∧ Hd (bitLen dd = r + bitsF kq y) ∧ wr = w2)
        case atStart => exact ⟨dd, 0, b1, by rw [HB1.out], rfl, rfl, hddb, HD2, hb1b.1, by omega, ⟨by simp⟩, ⟨by simp [bitLen]⟩, rfl⟩
        case round =>
          obtain ⟨y, r, s, rfl, rfl, hr, hy0, HY, hs0, hs1, HSS, HBL, rfl⟩ := hrel
          by_cases h2 : 0 < y
          · obtain ⟨f, rfl⟩ : ∃ f, gk = f + 1 := ⟨gk - 1, by
              have hy := HY.out
              cases gk with
              | zero => simp at hy; omega
              | succ f => rfl⟩
            have HB2 : Hd (bitLen dd = r + 1 + bitsF f (y / 2)) := ⟨by rw [HBL.out]; simp only [bitsF]; rw [if_neg (by omega)]; omega⟩
            have HY2 : Hd (y / 2 < 2 ^ f) := ⟨by have hy := HY.out; rw [Nat.pow_succ] at hy; omega⟩
            have HS2 : Hd (s + x2 = b1 + x2 * ((r + 1 : Nat) : Int)) := ⟨by rw [HSS.out]; push_cast; rw [Int.mul_add, Int.mul_one]; omega⟩
            clear HBL HY HSS
            go_wp2
            go_roundg f
            case measure => omega
            case rel => exact ⟨y / 2, r + 1, s + x2, by go_num, by go_num, by omega, by omega, HY2, by omega, by push_cast; omega, HS2, HB2, rfl⟩
          · obtain rfl : y = 0 := by omega
            have HB2 : Hd (bitLen dd = r) := ⟨by rw [HBL.out]; cases gk <;> simp [bitsF]⟩
            have HS3 : Hd (s = m + tc) := ⟨by rw [HSS.out, HT2.out, HB2.out, HB1.out]; omega⟩
            clear HBL HSS HY hs1
            go_wp2
            go_roundg (g0 - 1)
            case measure => omega
            case rel => exact ⟨j + 1, s, by go_num, by go_num, by omega, hs0, by have := HS3.out; push_cast; omega, ⟨by rw [HST.out, HS3.out]⟩, F2⟩
    · obtain rfl : j = ts.length := by omega
      have hm : Hd (v = m) := ⟨by rw [HM.out, List.take_length, HV.out]⟩
      go_wp2
      go_ret
      rw [hm.out]
      exact ⟨rfl, F1.out.trans HF.out (by simp)⟩
end Go.Proofs.Ytbfdokklhdmmoaa.Lz
