/- newFinder, Best, Options; the document's alike, Best, Options. Conditions: at most 2^40 bytes. -/
import Derived.Test.YtbfdokklhdmmoaaLzBest
set_option linter.unusedVariables false
set_option linter.unusedSimpArgs false
set_option maxRecDepth 100000
namespace Go.Proofs.Ytbfdokklhdmmoaa.Lz
open Go.RowKit Go.Maps Go.Proofs.Ytbfdokklhdmmoaa.Lib Go.Proofs.Ytbfdokklhdmmoaa.Num Go.Proofs.Ytbfdokklhdmmoaa.Bits

def optV (k : Opt) : Value := .agg #[.int .i64 k.window, .int .i64 k.chain, .bool k.isLazy]
theorem opt_any (w : World) (k : Opt) (er : Int) (he : er = optErr k) : Calls Try.prog 26 #[.agg #[.int .i64 k.window, .int .i64 k.chain, .bool k.isLazy]] w fun e w' => e = .returned (.int .i64 er) ∧ Fr w w' [] := by
  obtain ⟨a, b, z⟩ := k
  simp only
  by_cases h : a < 1
  · obtain rfl : er = 72 := by rw [he]; unfold optErr; exact if_pos (.inl h)
    go_enter Try.func26, Try.ntmps26
    go_wp2
    go_ret
    exact ⟨rfl, (Fr.refl _ _).alloc _⟩
  have g0 := h
  clear h
  by_cases h : 32768 < a
  · obtain rfl : er = 72 := by rw [he]; unfold optErr; exact if_pos (.inr (.inl h))
    go_enter Try.func26, Try.ntmps26
    go_wp2
    go_ret
    exact ⟨rfl, (Fr.refl _ _).alloc _⟩
  have g1 := h
  clear h
  by_cases h : b < 0
  · obtain rfl : er = 72 := by rw [he]; unfold optErr; exact if_pos (.inr (.inr (.inl h)))
    go_enter Try.func26, Try.ntmps26
    go_wp2
    go_ret
    exact ⟨rfl, (Fr.refl _ _).alloc _⟩
  have g2 := h
  clear h
  by_cases h : 4096 < b
  · obtain rfl : er = 72 := by rw [he]; unfold optErr; exact if_pos (.inr (.inr (.inr h)))
    go_enter Try.func26, Try.ntmps26
    go_wp2
    go_ret
    exact ⟨rfl, (Fr.refl _ _).alloc _⟩
  have g3 := h
  clear h
  obtain rfl : er = 0 := by rw [he]; unfold optErr; exact if_neg (by simp only; omega)
  go_enter Try.func26, Try.ntmps26
  go_wp2
  go_ret
  exact ⟨rfl, (Fr.refl _ _).alloc _⟩

theorem ropt_any (w : World) (k : Opt) (er : Int) (he : er = optErr k) : Calls Try.prog 27 #[.agg #[.int .i64 k.window, .int .i64 k.chain, .bool k.isLazy]] w fun e w' => e = .returned (.int .i64 er) ∧ Fr w w' [] := by
  obtain ⟨a, b, z⟩ := k
  simp only
  by_cases h : a < 1
  · obtain rfl : er = 72 := by rw [he]; unfold optErr; exact if_pos (.inl h)
    go_enter Try.func27, Try.ntmps27
    go_wp2
    go_ret
    exact ⟨rfl, (Fr.refl _ _).alloc _⟩
  have g0 := h
  clear h
  by_cases h : 32768 < a
  · obtain rfl : er = 72 := by rw [he]; unfold optErr; exact if_pos (.inr (.inl h))
    go_enter Try.func27, Try.ntmps27
    go_wp2
    go_ret
    exact ⟨rfl, (Fr.refl _ _).alloc _⟩
  have g1 := h
  clear h
  by_cases h : b < 0
  · obtain rfl : er = 72 := by rw [he]; unfold optErr; exact if_pos (.inr (.inr (.inl h)))
    go_enter Try.func27, Try.ntmps27
    go_wp2
    go_ret
    exact ⟨rfl, (Fr.refl _ _).alloc _⟩
  have g2 := h
  clear h
  by_cases h : 4096 < b
  · obtain rfl : er = 72 := by rw [he]; unfold optErr; exact if_pos (.inr (.inr (.inr h)))
    go_enter Try.func27, Try.ntmps27
    go_wp2
    go_ret
    exact ⟨rfl, (Fr.refl _ _).alloc _⟩
  have g3 := h
  clear h
  obtain rfl : er = 0 := by rw [he]; unfold optErr; exact if_neg (by simp only; omega)
  go_enter Try.func27, Try.ntmps27
  go_wp2
  go_ret
  exact ⟨rfl, (Fr.refl _ _).alloc _⟩

theorem new_any (w : World) (A : Option Addr) (n c : Nat) (d : List Int) (q : Option Nat) (k : Opt) (hS : SlArg w A n c (u8s d) q) (hb : Bytes d) :
    Calls Try.prog 40 #[.slice A n c, .agg #[.int .i64 k.window, .int .i64 k.chain, .bool k.isLazy]] w fun e w' => ∃ g B, e = .returned (.pointer (some ⟨g, 0, none⟩)) ∧ Fd w' g A n c d q k B none 0 0 ∧ w.heap.size ≤ g ∧ w.heap.size ≤ B ∧ Fr w w' [] := by
  have hmm := @run_makeMap Try.prog
  have HS := Hd.mk hS
  have hl : d.length = n := by have := hS.len; simpa [u8s] using this
  have HBy := Hd.mk hb
  clear hS hb
  go_enter Try.func40, Try.ntmps40
  go_wp2
  go_ret
  obtain ⟨w1, hw1⟩ : ∃ w1, w1 = w.alloc (.cells #[.int .i64 k.window, .int .i64 k.chain, .bool k.isLazy] 49) := ⟨_, rfl⟩
  rw [← hw1]
  have s1 : w1.heap.size = w.heap.size + 1 := by rw [hw1]; simp
  have f1 : Fr w w1 [] := hw1 ▸ (Fr.refl w []).alloc _
  obtain ⟨w2, hw2⟩ : ∃ w2, w2 = w1.alloc (.map #[] 0) := ⟨_, rfl⟩
  rw [← hw2]
  have s2 : w2.heap.size = w.heap.size + 1 + 1 := by rw [hw2]; simp [s1]
  have f2 : Fr w w2 [] := hw2 ▸ f1.alloc _
  have hm : w2.ownsMap (H := U) Try.prog 96 (plainElem Try.prog 3) (w.heap.size + 1) 0 (.map []) := by rw [← s1, hw2]; exact World.ownsMap_made _ _ _ _
  have hb := blk_new w2 (.cells #[.slice A n c, .int .i64 k.window, .int .i64 k.chain, .bool k.isLazy, .map (some (w.heap.size + 1)), .slice none 0 0, .int .i64 0] 92)
  have f3 := f2.alloc (.cells #[.slice A n c, .int .i64 k.window, .int .i64 k.chain, .bool k.isLazy, .map (some (w.heap.size + 1)), .slice none 0 0, .int .i64 0] 92)
  rw [s2] at hb
  refine ⟨w.heap.size + 1 + 1, w.heap.size + 1, rfl, ⟨hb, HS.out.sl.frame f3 (by simp), hl, HS.out.le, HBy.out, Nat.zero_le _, ⟨.map [], hm.alloc _, MapOk.zero d⟩, own_nil _ _ _ _, fun y hy => Nat.lt_of_lt_of_le (HS.out.lt y hy) f3.size, fun e => ?_, fun e => ?_, fun y hy h => by cases h⟩, by omega, by omega, f3⟩
  · have := HS.out.lt _ e; omega
  · have := HS.out.lt _ e; omega
def bestAll (d : List Int) (p : Int) (k : Opt) : (Nat × Nat) × Int := if optErr k ≠ 0 then ((0, 0), 72) else if p < 0 ∨ (d.length : Int) ≤ p then ((0, 0), 1) else (best d p.toNat k.window.toNat k.chain.toNat, 0)
theorem optErr_two (k : Opt) : optErr k = 0 ∨ optErr k = 72 := by unfold optErr; split; exact .inr rfl; exact .inl rfl
set_option maxHeartbeats 4000000 in
theorem bestp_any (w : World) (A : Option Addr) (n c : Nat) (d : List Int) (q : Option Nat) (p : Int) (k : Opt) (hS : SlArg w A n c (u8s d) q) (hb : Bytes d) (hn : n ≤ 1099511627776) (r : (Nat × Nat) × Int) (hr : r = bestAll d p k) :
    Calls Try.prog 30 #[.slice A n c, .int .i64 p, .agg #[.int .i64 k.window, .int .i64 k.chain, .bool k.isLazy]] w fun e w' => e = .returned (.tuple #[.int .i64 (r.1.1 : Nat), .int .i64 (r.1.2 : Nat), .int .i64 r.2]) ∧ Fr w w' [] := by
  obtain ⟨⟨r1, r2⟩, r3⟩ := r
  simp only
  have HS := Hd.mk hS
  have hl : d.length = n := by have := hS.len; simpa [u8s] using this
  have HBy := Hd.mk hb
  have HR := Hd.mk hr
  obtain ⟨er, her⟩ : ∃ er, er = optErr k := ⟨_, rfl⟩
  have HE := Hd.mk her
  have her2 : er = 0 ∨ er = 72 := her ▸ optErr_two k
  clear hS hb hr her
  go_enter Try.func30, Try.ntmps30
  go_wp2_with (fail)
  refine (opt_any _ k er HE.out).mono ?_
  rintro e w1 ⟨rfl, h1⟩
  have hbk := h1.blk (blk_new w (.cells #[.int .i64 k.window, .int .i64 k.chain, .bool k.isLazy] 49)) (by simp)
  have F1 := Hd.mk (((Fr.refl w []).alloc (.cells #[.int .i64 k.window, .int .i64 k.chain, .bool k.isLazy] 49)).trans h1 (by simp))
  have b0 := blk_cell hbk 0
  have b1 := blk_cell hbk 1
  have b2 := blk_cell hbk 2
  simp only [List.getElem?_toArray, List.getElem?_cons_zero, List.getElem?_cons_succ] at b0 b1 b2
  clear h1 hbk
  rcases her2 with rfl | rfl
  · by_cases hp0 : p < 0
    · have hz := HR.out
      unfold bestAll at hz
      rw [if_neg (by rw [← HE.out]; simp), if_pos (.inl hp0)] at hz
      obtain ⟨⟨rfl, rfl⟩, rfl⟩ : (r1 = 0 ∧ r2 = 0) ∧ r3 = 1 := by simpa using hz
      clear hz
      go_wp2
      go_ret3
      exact ⟨rfl, F1.out⟩
    · obtain ⟨p, rfl⟩ := Int.eq_ofNat_of_zero_le (show 0 ≤ p by omega)
      by_cases hp1 : p < n
      · have HR2 : Hd ((r1, r2) = best d p k.window.toNat k.chain.toNat) := ⟨by
          have hz := HR.out
          unfold bestAll at hz
          rw [if_neg (by rw [← HE.out]; simp), if_neg (by omega)] at hz
          exact congrArg Prod.fst hz⟩
        have hr3 : r3 = 0 := by
          have hz := HR.out
          unfold bestAll at hz
          rw [if_neg (by rw [← HE.out]; simp), if_neg (by omega)] at hz
          exact congrArg Prod.snd hz
        subst hr3
        go_wp2_with (fail)
        refine (new_any w1 A n c d q k (HS.out.frame F1.out (by simp)) HBy.out).mono ?_
        rintro e w2 ⟨g, B, rfl, hf, hg, hB, h2⟩
        have HF := Hd.mk hf
        have F2 := Hd.mk (F1.out.trans h2 (by simp))
        clear hf h2
        go_wp2_with (fail)
        refine (best_any w2 p hp1 hn HE.out.symm (r1, r2) HR2.out HF.out).mono ?_
        rintro e w3 ⟨rfl, E', ec', kn', _, _, h3⟩
        have F3 : Hd (Fr w w3 []) := ⟨F2.out.trans h3 (fun y hy hm => by
          have := F1.out.size
          simp [Value.ownBlock] at hm
          omega)⟩
        clear h3
        go_wp2
        go_ret3
        exact ⟨rfl, F3.out⟩
      · have hz := HR.out
        unfold bestAll at hz
        rw [if_neg (by rw [← HE.out]; simp), if_pos (.inr (by omega))] at hz
        obtain ⟨⟨rfl, rfl⟩, rfl⟩ : (r1 = 0 ∧ r2 = 0) ∧ r3 = 1 := by simpa using hz
        clear hz
        go_wp2
        go_ret3
        exact ⟨rfl, F1.out⟩
  · have hz := HR.out
    unfold bestAll at hz
    rw [if_pos (by rw [← HE.out]; simp)] at hz
    obtain ⟨⟨rfl, rfl⟩, rfl⟩ : (r1 = 0 ∧ r2 = 0) ∧ r3 = 72 := by simpa using hz
    clear hz
    go_wp2
    go_ret3
    exact ⟨rfl, F1.out⟩
theorem ralike_any (w : World) (A : Option Addr) (n c : Nat) (d : List Int) (q : Option Nat) (ci at' : Nat) (hc : ci < at') (ha : at' ≤ n) (hn : n ≤ 1099511627776) (hl : d.length = n) (hD : Sl w A (u8s d) q) :
    Calls Try.prog 42 #[.slice A n c, .int .i64 (ci : Nat), .int .i64 (at' : Nat)] w fun e w' => e = .returned (.int .i64 (alike d ci at' : Nat)) ∧ Fr w w' [] := by
  have HD := Hd.mk hD
  clear hD
  go_enter Try.func42, Try.ntmps42
  go_wp2
  go_loopg [7] 258 (fun kq jv wr => ∃ (j nq : Nat), jv = .int .i64 (j : Nat) ∧ j + kq = 258 ∧ wr = w.drewN nq ∧ Hd (alike d ci at' = alikeF d ci at' (258 - j) j))
  case atStart => exact ⟨0, 0, rfl, rfl, rfl, ⟨rfl⟩⟩
  case round =>
    obtain ⟨j, nq0, rfl, hj, rfl, HA⟩ := hrel
    by_cases h1 : j < 258
    · have HA2 : Hd (alike d ci at' = if at' + j < d.length ∧ at0 d (ci + j) = at0 d (at' + j) then alikeF d ci at' (258 - (j + 1)) (j + 1) else j) := ⟨by
        rw [HA.out, show 258 - j = (258 - (j + 1)) + 1 from by omega]; rfl⟩
      clear HA
      have hd1i : decide ((j : Int) < 258) = true := decide_eq_true (by omega)
      by_cases h2 : at' + j < n
      · have hd2 : decide ((at' : Int) + (j : Int) < (n : Int)) = true := decide_eq_true (by omega)
        obtain ⟨b, off, e, _, hcc⟩ := HD.out (by rw [u8s_length]; omega)
        subst e
        have k0 := (hcc (ci + j) (by rw [u8s_length]; omega)).trans (u8s_at (by omega))
        have k1 := (hcc (at' + j) (by rw [u8s_length]; omega)).trans (u8s_at (by omega))
        obtain ⟨x0, h0⟩ : ∃ x, x = at0 d (ci + j) := ⟨_, rfl⟩
        obtain ⟨x1, h1'⟩ : ∃ x, x = at0 d (at' + j) := ⟨_, rfl⟩
        rw [← h0] at k0
        rw [← h1'] at k1
        have H0 := Hd.mk h0
        have H1 := Hd.mk h1'
        clear hcc h0 h1'
        by_cases h3 : x0 = x1
        · subst h3
          go_wp2
          go_quiet (fail)
          go_wp2
          go_roundg (gk - 1)
          case measure => omega
          case rel => exact ⟨j + 1, nq0 + nq, by go_num, by omega, by first | rfl | exact World.drewN_drewN _ _ _, ⟨by rw [HA2.out, if_pos ⟨by omega, by rw [← H0.out, ← H1.out]⟩]⟩⟩
        · have hbq : (x0 == x1) = false := by simpa using h3
          go_wp2
          go_quiet (fail)
          go_wp2
          go_ret
          refine ⟨?_, ((Fr.refl w []).drewN _).drewN _⟩
          rw [HA2.out, if_neg (fun h => h3 (by rw [H0.out, H1.out]; exact h.2))]
          rfl
      · have hd2 : decide ((at' : Int) + (j : Int) < (n : Int)) = false := decide_eq_false (by omega)
        go_wp2
        go_quiet (fail)
        go_wp2
        go_ret
        refine ⟨?_, ((Fr.refl w []).drewN _).drewN _⟩
        rw [HA2.out, if_neg (fun h => by omega)]
        rfl
    · obtain rfl : j = 258 := by omega
      go_wp2
      go_quiet (fail)
      go_wp2
      go_ret
      refine ⟨?_, ((Fr.refl w []).drewN _).drewN _⟩
      rw [HA.out]
      rfl
set_option maxHeartbeats 4000000 in
theorem rbest_any (w : World) (A : Option Addr) (n c : Nat) (d : List Int) (q : Option Nat) (p : Int) (k : Opt) (hS : SlArg w A n c (u8s d) q) (hn : n ≤ 1099511627776) (r : (Nat × Nat) × Int) (hr : r = bestAll d p k) :
    Calls Try.prog 31 #[.slice A n c, .int .i64 p, .agg #[.int .i64 k.window, .int .i64 k.chain, .bool k.isLazy]] w fun e w' => e = .returned (.tuple #[.int .i64 (r.1.1 : Nat), .int .i64 (r.1.2 : Nat), .int .i64 r.2]) ∧ Fr w w' [] := by
  obtain ⟨⟨r1, r2⟩, r3⟩ := r
  simp only
  have HS := Hd.mk hS
  have hl : d.length = n := by have := hS.len; simpa [u8s] using this
  have HR := Hd.mk hr
  obtain ⟨er, her⟩ : ∃ er, er = optErr k := ⟨_, rfl⟩
  have HE := Hd.mk her
  have her2 : er = 0 ∨ er = 72 := her ▸ optErr_two k
  clear hS hr her
  go_enter Try.func31, Try.ntmps31
  go_wp2_with (fail)
  refine (ropt_any _ k er HE.out).mono ?_
  rintro e w1 ⟨rfl, h1⟩
  have hbk := h1.blk (blk_new w (.cells #[.int .i64 k.window, .int .i64 k.chain, .bool k.isLazy] 44)) (by simp)
  have F1 := Hd.mk (((Fr.refl w []).alloc (.cells #[.int .i64 k.window, .int .i64 k.chain, .bool k.isLazy] 44)).trans h1 (by simp))
  obtain ⟨kb, hkb⟩ : ∃ kb, kb = w.heap.size := ⟨_, rfl⟩
  rw [← hkb] at hbk ⊢
  have HKB := Hd.mk hbk
  clear h1 hbk hkb
  rcases her2 with rfl | rfl
  · by_cases hp0 : p < 0
    · have hz := HR.out
      unfold bestAll at hz
      rw [if_neg (by rw [← HE.out]; simp), if_pos (.inl hp0)] at hz
      obtain ⟨⟨rfl, rfl⟩, rfl⟩ : (r1 = 0 ∧ r2 = 0) ∧ r3 = 1 := by simpa using hz
      clear hz
      go_wp2
      go_ret3
      exact ⟨rfl, F1.out⟩
    · obtain ⟨p, rfl⟩ := Int.eq_ofNat_of_zero_le (show 0 ≤ p by omega)
      by_cases hp1 : p < n
      · have HR2 : Hd ((r1, r2) = best d p k.window.toNat k.chain.toNat) := ⟨by
          have hz := HR.out
          unfold bestAll at hz
          rw [if_neg (by rw [← HE.out]; simp), if_neg (by omega)] at hz
          exact congrArg Prod.fst hz⟩
        have hr3 : r3 = 0 := by
          have hz := HR.out
          unfold bestAll at hz
          rw [if_neg (by rw [← HE.out]; simp), if_neg (by omega)] at hz
          exact congrArg Prod.snd hz
        subst hr3
        obtain ⟨hw1, hw2, hc1, hc2⟩ := optErr_ok HE.out.symm
        obtain ⟨W, hW⟩ : ∃ W : Nat, k.window = (W : Nat) := ⟨k.window.toNat, by omega⟩
        obtain ⟨C, hC⟩ : ∃ C : Nat, k.chain = (C : Nat) := ⟨k.chain.toNat, by omega⟩
        have HR3 : Hd ((r1, r2) = bestF d p W p C 0 0) := ⟨by rw [HR2.out, hW, hC]; rfl⟩
        have hkb := HKB.out
        rw [hW, hC] at hkb
        have HK2 := Hd.mk hkb
        have hWb : W ≤ 32768 := by omega
        have hCb : C ≤ 4096 := by omega
        clear HR HR2 hW hC hkb hw1 hw2 hc1 hc2
        have hd0 : decide (n ≤ p) = false := decide_eq_false (by omega)
        go_wp2
        go_loopg [10, 11, 12, 13] p (fun kq bv sv nv qv wr => ∃ (b s e : Nat), bv = .int .i64 (b : Nat) ∧ sv = .int .i64 (s : Nat) ∧ nv = .int .i64 (e : Nat) ∧ qv = .int .i64 ((kq : Int) - 1) ∧ kq ≤ p ∧ e ≤ C ∧ Hd ((r1, r2) = bestF d p W kq (C - e) b s) ∧ Hd (Fr w1 wr []))
        case atStart => exact ⟨0, 0, 0, rfl, rfl, rfl, by go_num, Nat.le_refl _, Nat.zero_le _, HR3, ⟨Fr.refl _ _⟩⟩
        case round =>
          obtain ⟨b, s, e, rfl, rfl, rfl, rfl, hkp, heC, HR4, HG⟩ := hrel
          have hkb := HG.out.blk HK2.out (by simp)
          have b0 := blk_cell hkb 0
          have b1 := blk_cell hkb 1
          simp only [List.getElem?_toArray, List.getElem?_cons_zero, List.getElem?_cons_succ] at b0 b1
          clear hkb
          cases gk with
          | zero =>
            have hz := HR4.out
            obtain ⟨rfl, rfl⟩ : r1 = b ∧ r2 = s := by simpa [bestF] using hz
            clear hz
            have e0 : (((0 : Nat) : Int) - 1) = -1 := by omega
            rw [e0]
            go_wp2
            go_ret3
            exact ⟨rfl, F1.out.trans HG.out (by simp)⟩
          | succ t =>
            have e0 : (((t + 1 : Nat) : Int) - 1) = (t : Int) := by omega
            rw [e0]
            have HR5 : Hd ((r1, r2) = if p - t ≤ W ∧ 0 < C - e then (if alike d t p < 3 then bestF d p W t (C - e) b s else if b < alike d t p then bestF d p W t (C - e - 1) (alike d t p) (p - t) else bestF d p W t (C - e - 1) b s) else (b, s)) := HR4
            have hsub : (p : Int) - (t : Int) = ((p - t : Nat) : Int) := by omega
            clear HR4 e0
            by_cases h4 : p - t ≤ W
            · by_cases h5 : e < C
              · have HR6 : Hd ((r1, r2) = if alike d t p < 3 then bestF d p W t (C - e) b s else if b < alike d t p then bestF d p W t (C - e - 1) (alike d t p) (p - t) else bestF d p W t (C - e - 1) b s) := ⟨by
                  have := HR5.out
                  rwa [if_pos ⟨h4, by omega⟩] at this⟩
                obtain ⟨m, hm⟩ : ∃ m, m = alike d t p := ⟨_, rfl⟩
                have hmb : m ≤ 258 := by rw [hm]; exact alike_le d t p
                rw [← hm] at HR6
                have HMM := Hd.mk hm
                clear hm HR5
                go_wp2_with (fail)
                refine (ralike_any wr A n c d q t p (by omega) (by omega) hn hl (HS.out.sl.frame (F1.out.trans HG.out (by simp)) (by simp))).mono ?_
                rintro e w3 ⟨rfl, h3g⟩
                rw [← HMM.out]
                have HG3 := Hd.mk (HG.out.trans h3g (by simp))
                clear h3g b0 b1
                by_cases h6 : m < 3
                · have HR7 : Hd ((r1, r2) = bestF d p W t (C - e) b s) := ⟨by have := HR6.out; rwa [if_pos h6] at this⟩
                  go_wp2
                  go_roundg t
                  case measure => omega
                  case rel => exact ⟨b, s, e, rfl, rfl, rfl, by go_num, by omega, heC, HR7, HG3⟩
                · by_cases h7 : b < m
                  · have HR7 : Hd ((r1, r2) = bestF d p W t (C - (e + 1)) m (p - t)) := ⟨by have := HR6.out; rwa [if_neg h6, if_pos h7] at this⟩
                    go_wp2
                    go_roundg t
                    case measure => omega
                    case rel => exact ⟨m, p - t, e + 1, rfl, by go_num, by go_num, by go_num, by omega, by omega, HR7, HG3⟩
                  · have HR7 : Hd ((r1, r2) = bestF d p W t (C - (e + 1)) b s) := ⟨by have := HR6.out; rwa [if_neg h6, if_neg h7] at this⟩
                    go_wp2
                    go_roundg t
                    case measure => omega
                    case rel => exact ⟨b, s, e + 1, rfl, rfl, by go_num, by go_num, by omega, by omega, HR7, HG3⟩
              · have hz := HR5.out
                rw [if_neg (fun h => by omega)] at hz
                obtain ⟨rfl, rfl⟩ : r1 = b ∧ r2 = s := by simpa using hz
                clear hz
                go_wp2
                go_ret3
                exact ⟨rfl, F1.out.trans HG.out (by simp)⟩
            · have hz := HR5.out
              rw [if_neg (fun h => h4 h.1)] at hz
              obtain ⟨rfl, rfl⟩ : r1 = b ∧ r2 = s := by simpa using hz
              clear hz
              go_wp2
              go_ret3
              exact ⟨rfl, F1.out.trans HG.out (by simp)⟩
      · have hz := HR.out
        unfold bestAll at hz
        rw [if_neg (by rw [← HE.out]; simp), if_pos (.inr (by omega))] at hz
        obtain ⟨⟨rfl, rfl⟩, rfl⟩ : (r1 = 0 ∧ r2 = 0) ∧ r3 = 1 := by simpa using hz
        clear hz
        go_wp2
        go_ret3
        exact ⟨rfl, F1.out⟩
  · have hz := HR.out
    unfold bestAll at hz
    rw [if_pos (by rw [← HE.out]; simp)] at hz
    obtain ⟨⟨rfl, rfl⟩, rfl⟩ : (r1 = 0 ∧ r2 = 0) ∧ r3 = 72 := by simpa using hz
    clear hz
    go_wp2
    go_ret3
    exact ⟨rfl, F1.out⟩
end Go.Proofs.Ytbfdokklhdmmoaa.Lz
