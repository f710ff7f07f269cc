/- LzBack's walk. Conditions: at most 2^20 bytes. -/
import Derived.Test.YtbfdokklhdmmoaaLzBests
set_option linter.unusedVariables false
set_option linter.unusedSimpArgs false
set_option maxRecDepth 100000
namespace Go.Proofs.Ytbfdokklhdmmoaa.Lz
open Go.RowKit Go.Maps Go.Proofs.Ytbfdokklhdmmoaa.Lib Go.Proofs.Ytbfdokklhdmmoaa.Num Go.Proofs.Ytbfdokklhdmmoaa.Bits

set_option maxHeartbeats 8000000 in
theorem back_walk (A : Option Addr) (n c : Nat) (xs : List Int) (q : Option Nat) (k : Opt) (W : World) (hS : SlArg W A n c (u8s xs) q) (hw : ∀ x ∈ xs, (Lit.int .u8 x).wf = true) (hb : n ≤ 1048576) :
    Calls Try.prog 6 #[.slice A n c, .agg #[.int .i64 k.window, .int .i64 k.chain, .bool k.isLazy]] W fun e w' => e = .returned (.bool true) ∧ Below W.heap.size W w' := by
  have HS := Hd.mk hS
  have hl : xs.length = n := by have := hS.len; simpa [u8s] using this
  have HBy : Hd (Bytes xs) := ⟨fun x hx => bounds_u8 (hw x hx)⟩
  clear hS hw
  obtain ⟨er, her⟩ : ∃ er, er = optErr k := ⟨_, rfl⟩
  obtain ⟨ts, hts⟩ : ∃ ts, ts = parse xs k := ⟨_, rfl⟩
  have HE := Hd.mk her
  have HT := Hd.mk hts
  clear her hts
  have F0 := (Fr.refl W []).alloc (.cells #[.int .i64 k.window, .int .i64 k.chain, .bool k.isLazy] 44)
  have hk0 := blk_new W (.cells #[.int .i64 k.window, .int .i64 k.chain, .bool k.isLazy] 44)
  go_enter Try.func6, Try.ntmps6
  go_upto_region 1 with (fail)
  obtain ⟨kb, hkb⟩ : ∃ kb, kb = W.heap.size := ⟨_, rfl⟩
  rw [← hkb] at hk0 ⊢
  generalize hw0 : W.alloc (.cells #[.int .i64 k.window, .int .i64 k.chain, .bool k.isLazy] 44) = w0
  rw [hw0] at F0 hk0
  have HF0 := Hd.mk F0
  have HK0 := Hd.mk hk0
  have b0 := blk_cell hk0 0
  have b1 := blk_cell hk0 1
  have b2 := blk_cell hk0 2
  simp only [List.getElem?_toArray, List.getElem?_cons_zero, List.getElem?_cons_succ] at b0 b1 b2
  clear F0 hk0 hw0 hkb
  go_wp2_with (fail)
  refine (look_any w0 k).mono ?_
  rintro e w2 ⟨rfl, h3⟩
  have F2 := Hd.mk (HF0.out.trans h3 (by simp))
  have K2 := Hd.mk (h3.blk HK0.out (by simp))
  clear h3 b0 b1 b2
  go_wp2_with (fail)
  refine (parse_any w2 A n c xs q k (HS.out.frame F2.out (by simp)) HBy.out hb er ts HE.out HT.out).mono ?_
  rintro e w3 ⟨A1, m1, d1, rfl, h1, h2, h3⟩
  obtain rfl : m1 = ts.length := (toks_of_own h1).symm
  have O1 := Hd.mk h1
  have F3 := Hd.mk (F2.out.trans h3 (by simp))
  have K3 := Hd.mk (h3.blk K2.out (by simp))
  have b0 := blk_cell K3.out 0
  have b1 := blk_cell K3.out 1
  have b2 := blk_cell K3.out 2
  simp only [List.getElem?_toArray, List.getElem?_cons_zero, List.getElem?_cons_succ] at b0 b1 b2
  clear h1 h2 h3
  by_cases he : er = 0
  · obtain rfl : er = 0 := he
    have hk := HE.out.symm
    obtain ⟨p1, p2, p3, p4⟩ := parse_law (d := xs) (k := k) hk
    rw [← HT.out] at p1 p2 p3 p4
    have P1 := Hd.mk p1
    have P2 := Hd.mk p2
    have P3 := Hd.mk p3
    have hml : ts.length ≤ n := by omega
    have hplain : Hd (k.chain = 0 → ts.length = n) := ⟨fun h => by rw [HT.out, parse_plain hk h, hl]⟩
    clear p1 p2 p3 p4 hk
    go_wp2_with (fail)
    refine (check_any w3 k.window A1 ts.length d1 ts _ rfl (by exact sl_of_toks O1.out) (by omega) 0 0 P1.out.symm).mono ?_
    rintro e w4 ⟨rfl, h3⟩
    have O1 := Hd.mk (own_frame O1.out h3 (by simp))
    have F4 := Hd.mk (F3.out.trans h3 (by simp))
    have K4 := Hd.mk (h3.blk K3.out (by simp))
    clear h3 b0 b1 b2
    have b0 := blk_cell K4.out 0
    simp only [List.getElem?_toArray, List.getElem?_cons_zero, List.getElem?_cons_succ] at b0
    go_wp2_with (fail)
    refine (expand_any w4 k.window A1 ts.length d1 ts _ rfl (by exact sl_of_toks O1.out) (by omega) 0 xs (by rw [P1.out]) P2.out.symm).mono ?_
    rintro e w5 ⟨A2, m2, d2, rfl, h1, h2, h3⟩
    obtain rfl : m2 = n := by rw [← own_bytes h1]; exact hl
    have O2 := Hd.mk h1
    have O1 := Hd.mk (own_frame O1.out h3 (by simp))
    have F5 := Hd.mk (F4.out.trans h3 (by simp))
    have K5 := Hd.mk (h3.blk K4.out (by simp))
    clear h1 h2 h3 b0
    go_wp2_with (fail)
    refine (same_any w5 A2 A m2 m2 d2 c xs xs _ q hl hl HBy.out HBy.out (sl_of_own O2.out) (HS.out.sl.frame F5.out (by simp)) (fun h => own_none O2.out h) HS.out.nil).mono ?_
    rintro e w6 ⟨rfl, rfl⟩
    rw [decide_eq_true rfl]
    go_wp2_with (fail)
    refine (size_any w5 A1 ts.length d1 ts _ rfl (by exact sl_of_toks O1.out) (by omega)).mono ?_
    rintro e w6 ⟨rfl, h3⟩
    have F6 := Hd.mk (F5.out.trans h3 (by simp))
    have K6 := Hd.mk (h3.blk K5.out (by simp))
    clear h3
    rw [P3.out, hl]
    have hnn : ((m2 : Int) == (m2 : Int)) = true := by simp
    have b1 := blk_cell K6.out 1
    simp only [List.getElem?_toArray, List.getElem?_cons_zero, List.getElem?_cons_succ] at b1
    obtain ⟨ch, hch⟩ : ∃ ch, ch = k.chain := ⟨_, rfl⟩
    rw [← hch] at b1 hplain
    obtain ⟨tl, htl⟩ : ∃ tl, tl = ts.length := ⟨_, rfl⟩
    rw [← htl] at hplain hml ⊢
    clear hch htl
    by_cases hc0 : ch = 0
    · subst hc0
      obtain rfl : tl = m2 := hplain.out rfl
      go_wp2_with (fail)
      refine (lives_any w6).mono ?_
      rintro e w7 ⟨rfl, h1⟩
      have F7 := Hd.mk (F6.out.trans h1 (by simp))
      clear h1
      go_wp2
      go_ret
      exact ⟨rfl, F7.out.below⟩
    · have hcb : (ch == 0) = false := by simpa using hc0
      go_wp2_with (fail)
      refine (lives_any w6).mono ?_
      rintro e w7 ⟨rfl, h1⟩
      have F7 := Hd.mk (F6.out.trans h1 (by simp))
      clear h1
      go_wp2
      go_ret
      exact ⟨rfl, F7.out.below⟩
  · have heb : (er == 0) = false := by simpa using he
    obtain rfl : ts = [] := by rw [HT.out]; unfold parse; rw [if_neg (by rw [← HE.out]; exact he)]
    simp only [List.length_nil]
    go_wp2_with (fail)
    refine (ropt_any w3 k er HE.out).mono ?_
    rintro e w4 ⟨rfl, h3⟩
    have F4 := Hd.mk (F3.out.trans h3 (by simp))
    clear h3
    go_wp2
    go_ret
    exact ⟨rfl, F4.out.below⟩
end Go.Proofs.Ytbfdokklhdmmoaa.Lz
