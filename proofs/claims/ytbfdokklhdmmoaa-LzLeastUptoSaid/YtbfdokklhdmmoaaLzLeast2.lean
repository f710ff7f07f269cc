/- LzLeast's walk. Conditions: at most 2^20 bytes. -/
import Derived.Test.YtbfdokklhdmmoaaLzBests
import Derived.Test.YtbfdokklhdmmoaaLzLeast1
set_option linter.unusedVariables false
set_option linter.unusedSimpArgs false
set_option maxRecDepth 100000
namespace Go.Proofs.Ytbfdokklhdmmoaa.Lz
open Go.RowKit Go.Maps Go.Proofs.Ytbfdokklhdmmoaa.Lib Go.Proofs.Ytbfdokklhdmmoaa.Num Go.Proofs.Ytbfdokklhdmmoaa.Bits

theorem outF_short {d : List Int} {W : Nat} {c : Pr} : ∀ f p, (outF d W c f p).length ≤ f
  | 0, p => Nat.le_refl _
  | f + 1, p => by
    simp only [outF]
    split
    · have := outF_short (d := d) (W := W) (c := c) f (p + max (tab d W c p).2.len.toNat 1)
      simp only [List.length_cons]
      omega
    · exact Nat.zero_le _
theorem toks_short (d : List Int) (k : Opt) (c : Pr) : (cheapToks d k c).length ≤ d.length := by
  unfold cheapToks
  split
  · exact outF_short _ _
  · exact Nat.zero_le _
theorem pricing_any (w : World) (c : Pr) : Calls Try.prog 33 #[.agg #[.int .i64 c.lit, .int .i64 c.mat, .int .i64 c.far]] w fun e w' => e = .returned (.agg #[.int .i64 c.lit, .int .i64 c.mat, .int .i64 c.far]) ∧ Fr w w' [] := by
  go_enter Try.func33, Try.ntmps33
  go_wp2
  exact bodyPost_ret (v := .agg #[.int .i64 c.lit, .int .i64 c.mat, .int .i64 c.far]) (by simp [results, Try.results33, go_sem]) rfl ⟨rfl, ((Fr.refl _ _).alloc _).alloc _⟩
theorem cheapErr_ok {k : Opt} {c : Pr} (h : cheapErr k c = 0) : optErr k = 0 ∧ PrOk c := by
  unfold cheapErr at h
  split at h
  · simp at h
  · rename_i h1
    split at h
    · simp at h
    · rename_i h2
      exact ⟨by simpa using h1, prOk_of (by simpa using h2)⟩
theorem cheapErr_two (k : Opt) (c : Pr) : cheapErr k c = 0 ∨ cheapErr k c = 72 := by
  unfold cheapErr
  split
  · exact .inr rfl
  · split
    · exact .inr rfl
    · exact .inl rfl
/-- what LzLeast is about, in plain Lean -/
theorem least_law {d : List Int} {k : Opt} {c : Pr} (h : cheapErr k c = 0) : check k.window (cheapToks d k c) = (0, 0) ∧ expand k.window (cheapToks d k c) = d ∧ costL c (cheapToks d k c) = cheapCost d k c ∧ (∀ t ∈ cheapToks d k c, 0 ≤ t.dist ∧ t.dist ≤ 32768) ∧
    (∀ j : Opt, j.window = k.window → optErr j = 0 → cheapCost d k c ≤ costL c (parse d j) ∧ (∀ t ∈ parse d j, 0 ≤ t.dist ∧ t.dist ≤ 32768) ∧ (parse d j).length ≤ d.length) ∧ cheapCost d k c ≤ c.lit * (d.length : Nat) := by
  obtain ⟨h1, h2⟩ := cheapErr_ok h
  obtain ⟨hw1, hw2, _, _⟩ := optErr_ok h1
  obtain ⟨W, hW⟩ : ∃ W : Nat, k.window = (W : Nat) := ⟨k.window.toNat, by omega⟩
  have hWt : k.window.toNat = W := by omega
  have e1 : cheapToks d k c = outF d W c d.length 0 := by unfold cheapToks; rw [if_pos h, hWt]
  have e2 : cheapCost d k c = (tab d W c 0).1 := by unfold cheapCost; rw [if_pos h, hWt]
  have hW2 : W ≤ 32768 := by omega
  obtain ⟨o1, o2⟩ := out_law (d := d) (w := W) (c := c) (by omega) hW2
  rw [e1, e2, hW]
  refine ⟨o1, o2, out_cost _ _ (by omega), out_right hW2 _ _, fun j hj ho => ⟨?_, ?_, (parse_law ho).2.2.2⟩, ?_⟩
  · have hc := parse_cost (d := d) (k := j) h2 d.length 0 (Nat.zero_le _) (by omega)
    have hjt : j.window.toNat = W := by omega
    rw [hjt] at hc
    unfold parse
    rw [if_pos ho]
    exact hc
  · unfold parse
    rw [if_pos ho]
    exact parse_right ho _ _
  · exact lit_cost h2 d.length 0 (by omega)
set_option maxHeartbeats 16000000 in
theorem least_walk (A : Option Addr) (n cc : Nat) (xs : List Int) (q : Option Nat) (k : Opt) (c : Pr) (W : World) (hS : SlArg W A n cc (u8s xs) q) (hw : ∀ x ∈ xs, (Lit.int .u8 x).wf = true) (hb : n ≤ 1048576) :
    Calls Try.prog 10 #[.slice A n cc, .agg #[.int .i64 k.window, .int .i64 k.chain, .bool k.isLazy], .agg #[.int .i64 c.lit, .int .i64 c.mat, .int .i64 c.far]] W fun e w' => e = .returned (.bool true) ∧ Below W.heap.size W w' := by
  obtain ⟨i0, hi0, hz0, hz1, hz2⟩ := info_parts infoTok
  have HS := Hd.mk hS
  have hl : xs.length = n := by have := hS.len; simpa [u8s] using this
  have HBy : Hd (Bytes xs) := ⟨fun x hx => bounds_u8 (hw x hx)⟩
  clear hS hw
  obtain ⟨er, her⟩ : ∃ er, er = cheapErr k c := ⟨_, rfl⟩
  obtain ⟨co, hco⟩ : ∃ co, co = cheapCost xs k c := ⟨_, rfl⟩
  obtain ⟨ts, hts⟩ : ∃ ts, ts = cheapToks xs k c := ⟨_, rfl⟩
  have htl : ts.length ≤ n := by
    rw [hts, ← hl]
    exact toks_short _ _ _
  have HE := Hd.mk her
  have HC := Hd.mk hco
  have HT := Hd.mk hts
  clear her hco hts
  have F0 := ((Fr.refl W []).alloc (.cells #[.int .i64 k.window, .int .i64 k.chain, .bool k.isLazy] 44)).alloc (.cells #[.int .i64 c.lit, .int .i64 c.mat, .int .i64 c.far] 65)
  have hk0 := blk_alloc (blk_new W (.cells #[.int .i64 k.window, .int .i64 k.chain, .bool k.isLazy] 44)) (.cells #[.int .i64 c.lit, .int .i64 c.mat, .int .i64 c.far] 65)
  have hp0 := blk_new (W.alloc (.cells #[.int .i64 k.window, .int .i64 k.chain, .bool k.isLazy] 44)) (.cells #[.int .i64 c.lit, .int .i64 c.mat, .int .i64 c.far] 65)
  rw [World.size_alloc] at hp0
  go_enter Try.func10, Try.ntmps10
  go_upto_region 1 with (fail)
  obtain ⟨kb, hkb⟩ : ∃ kb, kb = W.heap.size := ⟨_, rfl⟩
  obtain ⟨pb, hpb⟩ : ∃ pb, pb = W.heap.size + 1 := ⟨_, rfl⟩
  rw [← hpb] at hp0 ⊢
  rw [← hkb] at hk0 ⊢
  generalize hw0 : (W.alloc (.cells #[.int .i64 k.window, .int .i64 k.chain, .bool k.isLazy] 44)).alloc (.cells #[.int .i64 c.lit, .int .i64 c.mat, .int .i64 c.far] 65) = w0
  rw [hw0] at F0 hk0 hp0
  have F1 := Hd.mk F0
  have K1 := Hd.mk hk0
  have P1 := Hd.mk hp0
  have hkbg : W.heap.size ≤ kb := by omega
  clear F0 hk0 hp0 hw0 hkb hpb
  obtain ⟨w1, rfl⟩ : ∃ w1 : World, w1 = w0 := ⟨_, rfl⟩
  have b0 := blk_cell K1.out 0
  have b1 := blk_cell K1.out 1
  have b2 := blk_cell K1.out 2
  have c0 := blk_cell P1.out 0
  have c1 := blk_cell P1.out 1
  have c2 := blk_cell P1.out 2
  simp only [List.getElem?_toArray, List.getElem?_cons_zero, List.getElem?_cons_succ] at b0 b1 b2 c0 c1 c2
  go_upto_region 1 with (fail)
  go_cut [7, 8, 9] from 17 to 27 (fun s1 s2 s3 wd => ∃ (A' : Option Addr) (d' : Nat), s1 = .slice A' ts.length d' ∧ s2 = .int .i64 co ∧ s3 = .int .i64 er ∧ Hd (wd.ownsRow 0 56 3 (.slice A' ts.length d') ts.length (tcells ts)) ∧ Hd (∀ y, (Value.slice A' ts.length d').ownBlock = some y → w1.heap.size ≤ y) ∧ Hd (Fr w1 wd []))
  case first =>
    have FZ : Hd (Fr w1 w1.drew []) := ⟨(Fr.refl w1 []).drew⟩
    go_region_with (first
      | (go_at_call 24; refine (look_any _ k).mono ?_; rintro e wn ⟨rfl, hh⟩; have FZ := Hd.mk (FZ.out.trans hh (by simp)); have hkk := FZ.out.blk K1.out (by simp); have b0 := blk_cell hkk 0; have b1 := blk_cell hkk 1; have b2 := blk_cell hkk 2; have hpp := FZ.out.blk P1.out (by simp); have c0 := blk_cell hpp 0; have c1 := blk_cell hpp 1; have c2 := blk_cell hpp 2; simp only [List.getElem?_toArray, List.getElem?_cons_zero, List.getElem?_cons_succ] at b0 b1 b2 c0 c1 c2; clear hkk hpp; clear hh)
      | (go_at_call 33; refine (pricing_any _ c).mono ?_; rintro e wn ⟨rfl, hh⟩; have FZ := Hd.mk (FZ.out.trans hh (by simp)); have hkk := FZ.out.blk K1.out (by simp); have b0 := blk_cell hkk 0; have b1 := blk_cell hkk 1; have b2 := blk_cell hkk 2; have hpp := FZ.out.blk P1.out (by simp); have c0 := blk_cell hpp 0; have c1 := blk_cell hpp 1; have c2 := blk_cell hpp 2; simp only [List.getElem?_toArray, List.getElem?_cons_zero, List.getElem?_cons_succ] at b0 b1 b2 c0 c1 c2; clear hkk hpp; clear hh)
      | (go_at_call 32; refine (cheap_any _ A n cc xs q k c (HS.out.frame (F1.out.trans FZ.out (by simp)) (by simp)) HBy.out hb er co ts HE.out HC.out HT.out).mono ?_; rintro e wn ⟨A', m', d', rfl, h1, h2, hh⟩; obtain rfl : m' = ts.length := (toks_of_own h1).symm; have OA := Hd.mk h1; have BA := Hd.mk (fun y hy => Nat.le_trans FZ.out.size (h2 y hy) : ∀ y, (Value.slice A' ts.length d').ownBlock = some y → w1.heap.size ≤ y); have FZ := Hd.mk (FZ.out.trans hh (by simp)); have hkk := FZ.out.blk K1.out (by simp); have b0 := blk_cell hkk 0; have b1 := blk_cell hkk 1; have b2 := blk_cell hkk 2; have hpp := FZ.out.blk P1.out (by simp); have c0 := blk_cell hpp 0; have c1 := blk_cell hpp 1; have c2 := blk_cell hpp 2; simp only [List.getElem?_toArray, List.getElem?_cons_zero, List.getElem?_cons_succ] at b0 b1 b2 c0 c1 c2; clear hkk hpp; clear h1 h2 hh))
    all_goals
      go_wp2
      go_meet
      exact ⟨_, _, rfl, rfl, rfl, OA, BA, FZ⟩
  case rest =>
  obtain ⟨Aa, da, rfl, rfl, rfl, Oa, Ba, FZ⟩ := hcut
  obtain ⟨w2, rfl⟩ : ∃ w2 : World, w2 = wc := ⟨_, rfl⟩
  have F2 := Hd.mk (F1.out.trans FZ.out (by simp))
  have K2 := Hd.mk (FZ.out.blk K1.out (by simp))
  have P2 := Hd.mk (FZ.out.blk P1.out (by simp))
  have BA : Hd (∀ y, (Value.slice Aa ts.length da).ownBlock = some y → W.heap.size ≤ y) := ⟨fun y hy => Nat.le_trans F1.out.size (Ba.out y hy)⟩
  clear FZ K1 P1 b0 b1 b2 c0 c1 c2 Ba F1
  have b0 := blk_cell K2.out 0
  have b1 := blk_cell K2.out 1
  have b2 := blk_cell K2.out 2
  have c0 := blk_cell P2.out 0
  have c1 := blk_cell P2.out 1
  have c2 := blk_cell P2.out 2
  simp only [List.getElem?_toArray, List.getElem?_cons_zero, List.getElem?_cons_succ] at b0 b1 b2 c0 c1 c2
  rcases (show er = 0 ∨ er = 72 from HE.out ▸ cheapErr_two k c) with he | he
  · obtain rfl : er = 0 := he
    obtain ⟨l1, l2, l3, l4, l5, l6⟩ := least_law (d := xs) (k := k) (c := c) HE.out.symm
    obtain ⟨hok, hpr⟩ := cheapErr_ok HE.out.symm
    have HOK := Hd.mk hok
    have HPK := Hd.mk hpr
    rw [← HT.out] at l1 l2 l3 l4
    rw [← HC.out] at l3 l5 l6
    have L1 := Hd.mk l1
    have L2 := Hd.mk l2
    have L3 := Hd.mk l3.symm
    have L4 := Hd.mk l4
    have L5 := Hd.mk l5
    have L6 := Hd.mk l6
    have hco := costL_bound hpr ts
    rw [l3] at hco
    have hx0 : 0 ≤ c.lit ∧ c.lit ≤ 1048576 := ⟨hpr.1, hpr.2.1⟩
    clear l1 l2 l3 l4 l5 l6 hok hpr
    go_wp2_with (fail)
    refine (expand_any w2 k.window Aa ts.length da ts _ rfl (by exact sl_of_toks Oa.out) (by omega) 0 xs (by rw [L1.out]) L2.out.symm).mono ?_
    rintro e w3 ⟨A2, m2, d2, rfl, h1, h2, h3⟩
    obtain rfl : m2 = n := by rw [← own_bytes h1]; exact hl
    have O3 := Hd.mk h1
    have Oa3 := Hd.mk (own_frame Oa.out h3 (by simp))
    have F3 := Hd.mk (F2.out.trans h3 (by simp))
    have K3 := Hd.mk (h3.blk K2.out (by simp))
    have P3 := Hd.mk (h3.blk P2.out (by simp))
    clear h1 h2 h3 b0 b1 b2 c0 c1 c2 Oa F2 K2 P2
    have b0 := blk_cell K3.out 0
    have b1 := blk_cell K3.out 1
    have b2 := blk_cell K3.out 2
    have c0 := blk_cell P3.out 0
    have c1 := blk_cell P3.out 1
    have c2 := blk_cell P3.out 2
    simp only [List.getElem?_toArray, List.getElem?_cons_zero, List.getElem?_cons_succ] at b0 b1 b2 c0 c1 c2
    go_wp2_with (fail)
    refine (look_any w3 k).mono ?_
    rintro e w4 ⟨rfl, h3⟩
    have O4 := Hd.mk (own_frame O3.out h3 (by simp))
    have Oa4 := Hd.mk (own_frame Oa3.out h3 (by simp))
    have F4 := Hd.mk (F3.out.trans h3 (by simp))
    have K4 := Hd.mk (h3.blk K3.out (by simp))
    have P4 := Hd.mk (h3.blk P3.out (by simp))
    clear h3 b0 b1 b2 c0 c1 c2 O3 Oa3 F3 K3 P3
    go_wp2_with (fail)
    obtain ⟨ps, hps⟩ : ∃ ps, ps = parse xs k := ⟨_, rfl⟩
    refine (parse_any w4 A m2 cc xs q k (HS.out.frame F4.out (by simp)) HBy.out hb 0 ps HOK.out.symm hps).mono ?_
    obtain ⟨l1, l2, l3⟩ := L5.out k rfl HOK.out
    rw [← hps] at l1 l2 l3
    obtain ⟨pc, hpc⟩ : ∃ pc, pc = costL c ps := ⟨_, rfl⟩
    rw [← hpc] at l1
    have HPC := Hd.mk hpc
    have HPD := Hd.mk l2
    have hpl : ps.length ≤ m2 := by omega
    clear hps hpc l2 l3
    rintro e w5 ⟨A5, m5, d5, rfl, h1, h2, h3⟩
    obtain rfl : m5 = ps.length := (toks_of_own h1).symm
    have Op5 := Hd.mk h1
    have O5 := Hd.mk (own_frame O4.out h3 (by simp))
    have Oa5 := Hd.mk (own_frame Oa4.out h3 (by simp))
    have F5 := Hd.mk (F4.out.trans h3 (by simp))
    have K5 := Hd.mk (h3.blk K4.out (by simp))
    have P5 := Hd.mk (h3.blk P4.out (by simp))
    clear h1 h2 h3 O4 Oa4 F4 K4 P4
    go_wp2_with (fail)
    refine (same_any w5 A2 A m2 m2 d2 cc xs xs _ q hl hl HBy.out HBy.out (sl_of_own O5.out) (HS.out.sl.frame F5.out (by simp)) (fun h => own_none O5.out h) HS.out.nil).mono ?_
    rintro e w6 ⟨rfl, rfl⟩
    rw [decide_eq_true rfl]
    clear O5
    have c0 := blk_cell P5.out 0
    have c1 := blk_cell P5.out 1
    have c2 := blk_cell P5.out 2
    simp only [List.getElem?_toArray, List.getElem?_cons_zero, List.getElem?_cons_succ] at c0 c1 c2
    go_wp2_with (fail)
    refine (costs_any w5 Aa ts.length da ts _ rfl (by exact sl_of_toks Oa5.out) c HPK.out L4.out (by omega) co L3.out).mono ?_
    rintro e w7 ⟨rfl, h3⟩
    have Op7 := Hd.mk (own_frame Op5.out h3 (by simp))
    have F7 := Hd.mk (F5.out.trans h3 (by simp))
    have K7 := Hd.mk (h3.blk K5.out (by simp))
    have P7 := Hd.mk (h3.blk P5.out (by simp))
    clear h3 c0 c1 c2 Oa5 Op5 F5 K5 P5
    have hcc : (co != co) = false := by simp
    have c0 := blk_cell P7.out 0
    have c1 := blk_cell P7.out 1
    have c2 := blk_cell P7.out 2
    simp only [List.getElem?_toArray, List.getElem?_cons_zero, List.getElem?_cons_succ] at c0 c1 c2
    go_wp2_with (fail)
    refine (costs_any w7 A5 ps.length d5 ps _ rfl (by exact sl_of_toks Op7.out) c HPK.out HPD.out (by omega) pc HPC.out).mono ?_
    rintro e w8 ⟨rfl, h3⟩
    have F8 := Hd.mk (F7.out.trans h3 (by simp))
    have K8 := Hd.mk (h3.blk K7.out (by simp))
    have P8 := Hd.mk (h3.blk P7.out (by simp))
    clear h3 c0 c1 c2 Op7 F7 K7 P7 hcc
    have hnl : ¬ pc < co := by omega
    have c0 := blk_cell P8.out 0
    have f1 := blk_frozen K8.out 1
    have f2 := blk_frozen K8.out 2
    have b1 := blk_cell K8.out 1
    have b2 := blk_cell K8.out 2
    simp only [List.getElem?_toArray, List.getElem?_cons_zero, List.getElem?_cons_succ] at c0 b1 b2
    obtain ⟨x0, hx0q⟩ : ∃ x0, x0 = c.lit := ⟨_, rfl⟩
    rw [← hx0q] at c0 hx0
    have hxn : 0 ≤ x0 * (m2 : Int) ∧ x0 * (m2 : Int) ≤ 1099511627776 := ⟨Int.mul_nonneg hx0.1 (by omega), by
      have : x0 * (m2 : Int) ≤ 1048576 * 1048576 := Int.mul_le_mul hx0.2 (by omega) (by omega) (by omega)
      omega⟩
    have hxl : ¬ x0 * (m2 : Int) < co := by
      have := L6.out
      rw [← hx0q, hl] at this
      omega
    clear hx0q
    go_upto_region 10 with (fail)
    have K9 := Hd.mk (blk_set (blk_set K8.out 2 (.bool (!k.isLazy))) 1 (.int .i64 4096))
    have F9 := Hd.mk ((F8.out.setCell (a := ⟨kb, 2, none⟩) (.bool (!k.isLazy)) (.inr hkbg)).setCell (a := ⟨kb, 1, none⟩) (.int .i64 4096) (.inr hkbg))
    have P9 := Hd.mk (blk_far (blk_far P8.out (p := ⟨kb, 2, none⟩) (Ne.symm (blk_ne K8.out P8.out (by decide))) (.bool (!k.isLazy))) (p := ⟨kb, 1, none⟩) (Ne.symm (blk_ne K8.out P8.out (by decide))) (.int .i64 4096))
    clear c0 f1 f2 b1 b2 K8 F8 P8 hxn hxl hnl
    generalize ((w8.setCell ⟨kb, 2, none⟩ (.bool (!k.isLazy))).setCell ⟨kb, 1, none⟩ (.int .i64 4096)) = w9 at *
    have K10 : Hd (w9.heap[kb]? = some (.cells #[.int .i64 k.window, .int .i64 4096, .bool (!k.isLazy)] 44 (0, 0))) := ⟨K9.out⟩
    have b0 := blk_cell K10.out 0
    have b1 := blk_cell K10.out 1
    have b2 := blk_cell K10.out 2
    simp only [List.getElem?_toArray, List.getElem?_cons_zero, List.getElem?_cons_succ] at b0 b1 b2
    clear K9
    have HOK2 : Hd (optErr ⟨k.window, 4096, !k.isLazy⟩ = 0) := ⟨by
      obtain ⟨hw1, hw2, _, _⟩ := optErr_ok HOK.out
      unfold optErr
      rw [if_neg (by simp only; omega)]⟩
    go_wp2_with (fail)
    refine (look_any w9 ⟨k.window, 4096, !k.isLazy⟩).mono ?_
    rintro e w10 ⟨rfl, h3⟩
    have F10 := Hd.mk (F9.out.trans h3 (by simp))
    have P10 := Hd.mk (h3.blk P9.out (by simp))
    clear h3 b0 b1 b2 F9 P9 K10
    go_wp2_with (fail)
    obtain ⟨ps2, hps⟩ : ∃ ps2, ps2 = parse xs ⟨k.window, 4096, !k.isLazy⟩ := ⟨_, rfl⟩
    refine (parse_any w10 A m2 cc xs q ⟨k.window, 4096, !k.isLazy⟩ (HS.out.frame F10.out (by simp)) HBy.out hb 0 ps2 HOK2.out.symm hps).mono ?_
    obtain ⟨l1, l2, l3⟩ := L5.out ⟨k.window, 4096, !k.isLazy⟩ rfl HOK2.out
    rw [← hps] at l1 l2 l3
    obtain ⟨pc2, hpc⟩ : ∃ pc2, pc2 = costL c ps2 := ⟨_, rfl⟩
    rw [← hpc] at l1
    have HPC2 := Hd.mk hpc
    have HPD2 := Hd.mk l2
    have hpl2 : ps2.length ≤ m2 := by omega
    clear hps hpc l2 l3
    rintro e w11 ⟨A11, m11, d11, rfl, h1, h2, h3⟩
    obtain rfl : m11 = ps2.length := (toks_of_own h1).symm
    have Op11 := Hd.mk h1
    have F11 := Hd.mk (F10.out.trans h3 (by simp))
    have P11 := Hd.mk (h3.blk P10.out (by simp))
    clear h1 h2 h3 F10 P10
    have c0 := blk_cell P11.out 0
    have c1 := blk_cell P11.out 1
    have c2 := blk_cell P11.out 2
    simp only [List.getElem?_toArray, List.getElem?_cons_zero, List.getElem?_cons_succ] at c0 c1 c2
    go_wp2_with (fail)
    refine (costs_any w11 A11 ps2.length d11 ps2 _ rfl (by exact sl_of_toks Op11.out) c HPK.out HPD2.out (by omega) pc2 HPC2.out).mono ?_
    rintro e w12 ⟨rfl, h3⟩
    have F12 := Hd.mk (F11.out.trans h3 (by simp))
    clear h3 c0 c1 c2 Op11 F11 P11
    have hge : pc2 ≥ co := by omega
    go_wp2_with (fail)
    refine (lives_any w12).mono ?_
    rintro e w13 ⟨rfl, h3⟩
    have F13 := Hd.mk (F12.out.trans h3 (by simp))
    clear h3
    go_wp2
    go_ret
    exact ⟨rfl, F13.out.below⟩
  · obtain rfl : er = 72 := he
    obtain rfl : ts = [] := by rw [HT.out]; unfold cheapToks; rw [if_neg (by rw [← HE.out]; simp)]
    obtain rfl : co = 0 := by rw [HC.out]; unfold cheapCost; rw [if_neg (by rw [← HE.out]; simp)]
    simp only [List.length_nil]
    go_wp2_with (fail)
    refine (rcheap_any w2 none 0 0 [] none k c ⟨rfl, Nat.le_refl _, by unfold maxLen; omega, fun _ => ⟨rfl, rfl⟩, fun h => absurd h (by decide), fun b hb => by cases hb⟩ (by omega) 72 0 [] HE.out (by unfold cheapCost; rw [if_neg (by rw [← HE.out]; simp)]) (by unfold cheapToks; rw [if_neg (by rw [← HE.out]; simp)])).mono ?_
    rintro e w3 ⟨A3, m3, d3, rfl, _, _, h3⟩
    have F3 := Hd.mk (F2.out.trans h3 (by simp))
    clear h3
    go_wp2_with (fail)
    refine (lives_any w3).mono ?_
    rintro e w13 ⟨rfl, h3⟩
    have F13 := Hd.mk (F3.out.trans h3 (by simp))
    clear h3
    go_wp2
    go_ret
    exact ⟨rfl, F13.out.below⟩
end Go.Proofs.Ytbfdokklhdmmoaa.Lz
