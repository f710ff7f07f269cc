import Derived.Test.YtkdgfioigkijgaaGreatW01
import Derived.Test.YtkdgfioigkijgaaGreatW02
import Derived.Test.YtkdgfioigkijgaaGreatW03
import Derived.Test.YtkdgfioigkijgaaGreatW04
import Derived.Test.YtkdgfioigkijgaaGreatW05
import Derived.Test.YtkdgfioigkijgaaGreatW06
import Derived.Test.YtkdgfioigkijgaaGreatW07
import Derived.Test.YtkdgfioigkijgaaGreatW08
import Derived.Test.YtkdgfioigkijgaaGreatW09
import Derived.Test.YtkdgfioigkijgaaGreatW10
import Derived.Test.YtkdgfioigkijgaaGreatW11
import Derived.Test.YtkdgfioigkijgaaGreatW12
import Derived.Test.YtkdgfioigkijgaaGreatW13
import Derived.Test.YtkdgfioigkijgaaGreatW14
import Derived.Test.YtkdgfioigkijgaaGreatW15
import Derived.Test.YtkdgfioigkijgaaGreatW16
import Derived.BigRegion
import Derived.BigQuiet
import Derived.Deep.QuietTactic
import Derived.Deep.LoopGhost
import Derived.Deep.DeepCutAuto
import Derived.KernelRfl
import Derived.Deep.RegionLaw
import Derived.Outline
set_option linter.unusedVariables false
set_option linter.unusedSimpArgs false
set_option maxRecDepth 100000
namespace Go.Proofs.YtkdgfioigkijgaaGreat.Lz
open Go.RowKit Go.Maps Go.Proofs.YtkdgfioigkijgaaGreat.Lib Go.Proofs.YtkdgfioigkijgaaGreat.Num Go.Proofs.YtkdgfioigkijgaaGreat.Bits
theorem opt_any (w : World) (k : Opt) (er : Int) (he : er = optErr k) : Calls Tryz.prog 109 #[.agg #[.int .i64 k.window, .int .i64 k.chain, .bool k.isLazy]] w fun e w' => e = .returned (.int .i64 er) ∧ Fr w w' [] := by
  obtain ⟨a, b, z⟩ := k
  simp only
  by_cases h : a < 1
  · obtain rfl : er = 72 := by rw [he]; unfold optErr; exact if_pos (.inl h)
    go_enter Tryz.func109, Tryz.ntmps109
    go_wp2
    go_ret
    exact ⟨rfl, (Fr.refl _ _).alloc _⟩
  have g0 := h
  clear h
  by_cases h : 32768 < a
  · obtain rfl : er = 72 := by rw [he]; unfold optErr; exact if_pos (.inr (.inl h))
    go_enter Tryz.func109, Tryz.ntmps109
    go_wp2
    go_ret
    exact ⟨rfl, (Fr.refl _ _).alloc _⟩
  have g1 := h
  clear h
  by_cases h : b < 0
  · obtain rfl : er = 72 := by rw [he]; unfold optErr; exact if_pos (.inr (.inr (.inl h)))
    go_enter Tryz.func109, Tryz.ntmps109
    go_wp2
    go_ret
    exact ⟨rfl, (Fr.refl _ _).alloc _⟩
  have g2 := h
  clear h
  by_cases h : 4096 < b
  · obtain rfl : er = 72 := by rw [he]; unfold optErr; exact if_pos (.inr (.inr (.inr h)))
    go_enter Tryz.func109, Tryz.ntmps109
    go_wp2
    go_ret
    exact ⟨rfl, (Fr.refl _ _).alloc _⟩
  have g3 := h
  clear h
  obtain rfl : er = 0 := by rw [he]; unfold optErr; exact if_neg (by simp only; omega)
  go_enter Tryz.func109, Tryz.ntmps109
  go_wp2
  go_ret
  exact ⟨rfl, (Fr.refl _ _).alloc _⟩
theorem ropt_any (w : World) (k : Opt) (er : Int) (he : er = optErr k) : Calls Tryz.prog 106 #[.agg #[.int .i64 k.window, .int .i64 k.chain, .bool k.isLazy]] w fun e w' => e = .returned (.int .i64 er) ∧ Fr w w' [] := by
  obtain ⟨a, b, z⟩ := k
  simp only
  by_cases h : a < 1
  · obtain rfl : er = 72 := by rw [he]; unfold optErr; exact if_pos (.inl h)
    go_enter Tryz.func106, Tryz.ntmps106
    go_wp2
    go_ret
    exact ⟨rfl, (Fr.refl _ _).alloc _⟩
  have g0 := h
  clear h
  by_cases h : 32768 < a
  · obtain rfl : er = 72 := by rw [he]; unfold optErr; exact if_pos (.inr (.inl h))
    go_enter Tryz.func106, Tryz.ntmps106
    go_wp2
    go_ret
    exact ⟨rfl, (Fr.refl _ _).alloc _⟩
  have g1 := h
  clear h
  by_cases h : b < 0
  · obtain rfl : er = 72 := by rw [he]; unfold optErr; exact if_pos (.inr (.inr (.inl h)))
    go_enter Tryz.func106, Tryz.ntmps106
    go_wp2
    go_ret
    exact ⟨rfl, (Fr.refl _ _).alloc _⟩
  have g2 := h
  clear h
  by_cases h : 4096 < b
  · obtain rfl : er = 72 := by rw [he]; unfold optErr; exact if_pos (.inr (.inr (.inr h)))
    go_enter Tryz.func106, Tryz.ntmps106
    go_wp2
    go_ret
    exact ⟨rfl, (Fr.refl _ _).alloc _⟩
  have g3 := h
  clear h
  obtain rfl : er = 0 := by rw [he]; unfold optErr; exact if_neg (by simp only; omega)
  go_enter Tryz.func106, Tryz.ntmps106
  go_wp2
  go_ret
  exact ⟨rfl, (Fr.refl _ _).alloc _⟩
theorem new_any (w : World) (A : Option Addr) (n c : Nat) (d : List Int) (q : Option Nat) (k : Opt) (hS : SlArg w A n c (u8s d) q) (hb : Bytes d) :
    Calls Tryz.prog 110 #[.slice A n c, .agg #[.int .i64 k.window, .int .i64 k.chain, .bool k.isLazy]] w fun e w' => ∃ g B, e = .returned (.pointer (some ⟨g, 0, none⟩)) ∧ Fd w' g A n c d q k B none 0 0 ∧ w.heap.size ≤ g ∧ w.heap.size ≤ B ∧ Fr w w' [] := by
  have hmm := @run_makeMap Tryz.prog
  have HS := Hd.mk hS
  have hl : d.length = n := by have := hS.len; simpa [u8s] using this
  have HBy := Hd.mk hb
  clear hS hb
  go_enter Tryz.func110, Tryz.ntmps110
  go_wp2
  go_ret
  obtain ⟨w1, hw1⟩ : ∃ w1, w1 = w.alloc (.cells #[.int .i64 k.window, .int .i64 k.chain, .bool k.isLazy] 84) := ⟨_, rfl⟩
  rw [← hw1]
  have s1 : w1.heap.size = w.heap.size + 1 := by rw [hw1]; simp
  have f1 : Fr w w1 [] := hw1 ▸ (Fr.refl w []).alloc _
  obtain ⟨w2, hw2⟩ : ∃ w2, w2 = w1.alloc (.map #[] 0) := ⟨_, rfl⟩
  rw [← hw2]
  have s2 : w2.heap.size = w.heap.size + 1 + 1 := by rw [hw2]; simp [s1]
  have f2 : Fr w w2 [] := hw2 ▸ f1.alloc _
  have hm : w2.ownsMap (H := U) Tryz.prog 284 (plainElem Tryz.prog 3) (w.heap.size + 1) 0 (.map []) := by rw [← s1, hw2]; exact World.ownsMap_made _ _ _ _
  have hb := blk_new w2 (.cells #[.slice A n c, .int .i64 k.window, .int .i64 k.chain, .bool k.isLazy, .map (some (w.heap.size + 1)), .slice none 0 0, .int .i64 0] 262)
  have f3 := f2.alloc (.cells #[.slice A n c, .int .i64 k.window, .int .i64 k.chain, .bool k.isLazy, .map (some (w.heap.size + 1)), .slice none 0 0, .int .i64 0] 262)
  rw [s2] at hb
  refine ⟨w.heap.size + 1 + 1, w.heap.size + 1, rfl, ⟨hb, HS.out.sl.frame f3 (by simp), hl, HS.out.le, HBy.out, Nat.zero_le _, ⟨.map [], hm.alloc _, MapOk.zero d⟩, own_nil _ _ _ _, fun y hy => Nat.lt_of_lt_of_le (HS.out.lt y hy) f3.size, fun e => ?_, fun e => ?_, fun y hy h => by cases h⟩, by omega, by omega, f3⟩
  · have := HS.out.lt _ e; omega
  · have := HS.out.lt _ e; omega
def bestAll (d : List Int) (p : Int) (k : Opt) : (Nat × Nat) × Int := if optErr k ≠ 0 then ((0, 0), 72) else if p < 0 ∨ (d.length : Int) ≤ p then ((0, 0), 1) else (best d p.toNat k.window.toNat k.chain.toNat, 0)
theorem optErr_two (k : Opt) : optErr k = 0 ∨ optErr k = 72 := by unfold optErr; split; exact .inr rfl; exact .inl rfl
theorem ralike_any (w : World) (A : Option Addr) (n c : Nat) (d : List Int) (q : Option Nat) (ci at' : Nat) (hc : ci < at') (ha : at' ≤ n) (hn : n ≤ 1099511627776) (hl : d.length = n) (hD : Sl w A (u8s d) q) :
    Calls Tryz.prog 159 #[.slice A n c, .int .i64 (ci : Nat), .int .i64 (at' : Nat)] w fun e w' => e = .returned (.int .i64 (alike d ci at' : Nat)) ∧ Fr w w' [] := by
  have HD := Hd.mk hD
  clear hD
  go_enter Tryz.func159, Tryz.ntmps159
  go_wp2
  go_loopg [7] 258 (fun kq jv wr => ∃ (j nq : Nat), jv = .int .i64 (j : Nat) ∧ j + kq = 258 ∧ wr = w.drewN nq ∧ Hd (alike d ci at' = alikeF d ci at' (258 - j) j))
  case atStart => exact ⟨0, 0, rfl, rfl, rfl, ⟨rfl⟩⟩
  case round =>
    obtain ⟨j, nq0, rfl, hj, rfl, HA⟩ := hrel
    by_cases h1 : j < 258
    · have HA2 : Hd (alike d ci at' = if at' + j < d.length ∧ at0 d (ci + j) = at0 d (at' + j) then alikeF d ci at' (258 - (j + 1)) (j + 1) else j) := ⟨by
        rw [HA.out, show 258 - j = (258 - (j + 1)) + 1 from by omega]; rfl⟩
      clear HA
      have hd1i : decide ((j : Int) < 258) = true := decide_eq_true (by omega)
      by_cases h2 : at' + j < n
      · have hd2 : decide ((at' : Int) + (j : Int) < (n : Int)) = true := decide_eq_true (by omega)
        obtain ⟨b, off, e, _, hcc⟩ := HD.out (by rw [u8s_length]; omega)
        subst e
        have k0 := (hcc (ci + j) (by rw [u8s_length]; omega)).trans (u8s_at (by omega))
        have k1 := (hcc (at' + j) (by rw [u8s_length]; omega)).trans (u8s_at (by omega))
        obtain ⟨x0, h0⟩ : ∃ x, x = at0 d (ci + j) := ⟨_, rfl⟩
        obtain ⟨x1, h1'⟩ : ∃ x, x = at0 d (at' + j) := ⟨_, rfl⟩
        rw [← h0] at k0
        rw [← h1'] at k1
        have H0 := Hd.mk h0
        have H1 := Hd.mk h1'
        clear hcc h0 h1'
        by_cases h3 : x0 = x1
        · subst h3
          go_wp2
          go_quiet (fail)
          go_wp2
          go_roundg (gk - 1)
          case measure => omega
          case rel => exact ⟨j + 1, nq0 + nq, by go_num, by omega, by first | rfl | exact World.drewN_drewN _ _ _, ⟨by rw [HA2.out, if_pos ⟨by omega, by rw [← H0.out, ← H1.out]⟩]⟩⟩
        · have hbq : (x0 == x1) = false := by simpa using h3
          go_wp2
          go_quiet (fail)
          go_wp2
          go_ret
          refine ⟨?_, ((Fr.refl w []).drewN _).drewN _⟩
          rw [HA2.out, if_neg (fun h => h3 (by rw [H0.out, H1.out]; exact h.2))]
          rfl
      · have hd2 : decide ((at' : Int) + (j : Int) < (n : Int)) = false := decide_eq_false (by omega)
        go_wp2
        go_quiet (fail)
        go_wp2
        go_ret
        refine ⟨?_, ((Fr.refl w []).drewN _).drewN _⟩
        rw [HA2.out, if_neg (fun h => by omega)]
        rfl
    · obtain rfl : j = 258 := by omega
      go_wp2
      go_quiet (fail)
      go_wp2
      go_ret
      refine ⟨?_, ((Fr.refl w []).drewN _).drewN _⟩
      rw [HA.out]
      rfl
set_option maxHeartbeats 4000000 in
theorem rbest_any (w : World) (A : Option Addr) (n c : Nat) (d : List Int) (q : Option Nat) (p : Int) (k : Opt) (hS : SlArg w A n c (u8s d) q) (hn : n ≤ 1099511627776) (r : (Nat × Nat) × Int) (hr : r = bestAll d p k) :
    Calls Tryz.prog 107 #[.slice A n c, .int .i64 p, .agg #[.int .i64 k.window, .int .i64 k.chain, .bool k.isLazy]] w fun e w' => e = .returned (.tuple #[.int .i64 (r.1.1 : Nat), .int .i64 (r.1.2 : Nat), .int .i64 r.2]) ∧ Fr w w' [] := by
  obtain ⟨⟨r1, r2⟩, r3⟩ := r
  simp only
  have HS := Hd.mk hS
  have hl : d.length = n := by have := hS.len; simpa [u8s] using this
  have HR := Hd.mk hr
  obtain ⟨er, her⟩ : ∃ er, er = optErr k := ⟨_, rfl⟩
  have HE := Hd.mk her
  have her2 : er = 0 ∨ er = 72 := her ▸ optErr_two k
  clear hS hr her
  go_enter Tryz.func107, Tryz.ntmps107
  go_wp2_with (fail)
  refine (ropt_any _ k er HE.out).mono ?_
  rintro e w1 ⟨rfl, h1⟩
  have hbk := h1.blk (blk_new w (.cells #[.int .i64 k.window, .int .i64 k.chain, .bool k.isLazy] 90)) (by simp)
  have F1 := Hd.mk (((Fr.refl w []).alloc (.cells #[.int .i64 k.window, .int .i64 k.chain, .bool k.isLazy] 90)).trans h1 (by simp))
  obtain ⟨kb, hkb⟩ : ∃ kb, kb = w.heap.size := ⟨_, rfl⟩
  rw [← hkb] at hbk ⊢
  have HKB := Hd.mk hbk
  clear h1 hbk hkb
  rcases her2 with rfl | rfl
  · by_cases hp0 : p < 0
    · have hz := HR.out
      unfold bestAll at hz
      rw [if_neg (by rw [← HE.out]; simp), if_pos (.inl hp0)] at hz
      obtain ⟨⟨rfl, rfl⟩, rfl⟩ : (r1 = 0 ∧ r2 = 0) ∧ r3 = 1 := by simpa using hz
      clear hz
      go_wp2
      go_ret3
      exact ⟨rfl, F1.out⟩
    · obtain ⟨p, rfl⟩ := Int.eq_ofNat_of_zero_le (show 0 ≤ p by omega)
      by_cases hp1 : p < n
      · have HR2 : Hd ((r1, r2) = best d p k.window.toNat k.chain.toNat) := ⟨by
          have hz := HR.out
          unfold bestAll at hz
          rw [if_neg (by rw [← HE.out]; simp), if_neg (by omega)] at hz
          exact congrArg Prod.fst hz⟩
        have hr3 : r3 = 0 := by
          have hz := HR.out
          unfold bestAll at hz
          rw [if_neg (by rw [← HE.out]; simp), if_neg (by omega)] at hz
          exact congrArg Prod.snd hz
        subst hr3
        obtain ⟨hw1, hw2, hc1, hc2⟩ := optErr_ok HE.out.symm
        obtain ⟨W, hW⟩ : ∃ W : Nat, k.window = (W : Nat) := ⟨k.window.toNat, by omega⟩
        obtain ⟨C, hC⟩ : ∃ C : Nat, k.chain = (C : Nat) := ⟨k.chain.toNat, by omega⟩
        have HR3 : Hd ((r1, r2) = bestF d p W p C 0 0) := ⟨by rw [HR2.out, hW, hC]; rfl⟩
        have hkb := HKB.out
        rw [hW, hC] at hkb
        have HK2 := Hd.mk hkb
        have hWb : W ≤ 32768 := by omega
        have hCb : C ≤ 4096 := by omega
        clear HR HR2 hW hC hkb hw1 hw2 hc1 hc2
        have hd0 : decide (n ≤ p) = false := decide_eq_false (by omega)
        go_wp2
        go_loopg [10, 11, 12, 13] p (fun kq bv sv nv qv wr => ∃ (b s e : Nat), bv = .int .i64 (b : Nat) ∧ sv = .int .i64 (s : Nat) ∧ nv = .int .i64 (e : Nat) ∧ qv = .int .i64 ((kq : Int) - 1) ∧ kq ≤ p ∧ e ≤ C ∧ Hd ((r1, r2) = bestF d p W kq (C - e) b s) ∧ Hd (Fr w1 wr []))
        case atStart => exact ⟨0, 0, 0, rfl, rfl, rfl, by go_num, Nat.le_refl _, Nat.zero_le _, HR3, ⟨Fr.refl _ _⟩⟩
        case round =>
          obtain ⟨b, s, e, rfl, rfl, rfl, rfl, hkp, heC, HR4, HG⟩ := hrel
          have hkb := HG.out.blk HK2.out (by simp)
          have b0 := blk_cell hkb 0
          have b1 := blk_cell hkb 1
          simp only [List.getElem?_toArray, List.getElem?_cons_zero, List.getElem?_cons_succ] at b0 b1
          clear hkb
          cases gk with
          | zero =>
            have hz := HR4.out
            obtain ⟨rfl, rfl⟩ : r1 = b ∧ r2 = s := by simpa [bestF] using hz
            clear hz
            have e0 : (((0 : Nat) : Int) - 1) = -1 := by omega
            rw [e0]
            go_wp2
            go_ret3
            exact ⟨rfl, F1.out.trans HG.out (by simp)⟩
          | succ t =>
            have e0 : (((t + 1 : Nat) : Int) - 1) = (t : Int) := by omega
            rw [e0]
            have HR5 : Hd ((r1, r2) = if p - t ≤ W ∧ 0 < C - e then (if alike d t p < 3 then bestF d p W t (C - e) b s else if b < alike d t p then bestF d p W t (C - e - 1) (alike d t p) (p - t) else bestF d p W t (C - e - 1) b s) else (b, s)) := HR4
            have hsub : (p : Int) - (t : Int) = ((p - t : Nat) : Int) := by omega
            clear HR4 e0
            by_cases h4 : p - t ≤ W
            · by_cases h5 : e < C
              · have HR6 : Hd ((r1, r2) = if alike d t p < 3 then bestF d p W t (C - e) b s else if b < alike d t p then bestF d p W t (C - e - 1) (alike d t p) (p - t) else bestF d p W t (C - e - 1) b s) := ⟨by
                  have := HR5.out
                  rwa [if_pos ⟨h4, by omega⟩] at this⟩
                obtain ⟨m, hm⟩ : ∃ m, m = alike d t p := ⟨_, rfl⟩
                have hmb : m ≤ 258 := by rw [hm]; exact alike_le d t p
                rw [← hm] at HR6
                have HMM := Hd.mk hm
                clear hm HR5
                go_wp2_with (fail)
                refine (ralike_any wr A n c d q t p (by omega) (by omega) hn hl (HS.out.sl.frame (F1.out.trans HG.out (by simp)) (by simp))).mono ?_
                rintro e w3 ⟨rfl, h3g⟩
                rw [← HMM.out]
                have HG3 := Hd.mk (HG.out.trans h3g (by simp))
                clear h3g b0 b1
                by_cases h6 : m < 3
                · have HR7 : Hd ((r1, r2) = bestF d p W t (C - e) b s) := ⟨by have := HR6.out; rwa [if_pos h6] at this⟩
                  go_wp2
                  go_roundg t
                  case measure => omega
                  case rel => exact ⟨b, s, e, rfl, rfl, rfl, by go_num, by omega, heC, HR7, HG3⟩
                · by_cases h7 : b < m
                  · have HR7 : Hd ((r1, r2) = bestF d p W t (C - (e + 1)) m (p - t)) := ⟨by have := HR6.out; rwa [if_neg h6, if_pos h7] at this⟩
                    go_wp2
                    go_roundg t
                    case measure => omega
                    case rel => exact ⟨m, p - t, e + 1, rfl, by go_num, by go_num, by go_num, by omega, by omega, HR7, HG3⟩
                  · have HR7 : Hd ((r1, r2) = bestF d p W t (C - (e + 1)) b s) := ⟨by have := HR6.out; rwa [if_neg h6, if_neg h7] at this⟩
                    go_wp2
                    go_roundg t
                    case measure => omega
                    case rel => exact ⟨b, s, e + 1, rfl, rfl, by go_num, by go_num, by omega, by omega, HR7, HG3⟩
              · have hz := HR5.out
                rw [if_neg (fun h => by omega)] at hz
                obtain ⟨rfl, rfl⟩ : r1 = b ∧ r2 = s := by simpa using hz
                clear hz
                go_wp2
                go_ret3
                exact ⟨rfl, F1.out.trans HG.out (by simp)⟩
            · have hz := HR5.out
              rw [if_neg (fun h => h4 h.1)] at hz
              obtain ⟨rfl, rfl⟩ : r1 = b ∧ r2 = s := by simpa using hz
              clear hz
              go_wp2
              go_ret3
              exact ⟨rfl, F1.out.trans HG.out (by simp)⟩
      · have hz := HR.out
        unfold bestAll at hz
        rw [if_neg (by rw [← HE.out]; simp), if_pos (.inr (by omega))] at hz
        obtain ⟨⟨rfl, rfl⟩, rfl⟩ : (r1 = 0 ∧ r2 = 0) ∧ r3 = 1 := by simpa using hz
        clear hz
        go_wp2
        go_ret3
        exact ⟨rfl, F1.out⟩
  · have hz := HR.out
    unfold bestAll at hz
    rw [if_pos (by rw [← HE.out]; simp)] at hz
    obtain ⟨⟨rfl, rfl⟩, rfl⟩ : (r1 = 0 ∧ r2 = 0) ∧ r3 = 72 := by simpa using hz
    clear hz
    go_wp2
    go_ret3
    exact ⟨rfl, F1.out⟩
end Go.Proofs.YtkdgfioigkijgaaGreat.Lz
set_option linter.unusedVariables false
set_option linter.unusedSimpArgs false
set_option maxRecDepth 100000
namespace Go.Proofs.YtkdgfioigkijgaaGreat.Lz
open Go.RowKit Go.Maps Go.Proofs.YtkdgfioigkijgaaGreat.Lib Go.Proofs.YtkdgfioigkijgaaGreat.Num Go.Proofs.YtkdgfioigkijgaaGreat.Bits
theorem infoTok : (Tryz.prog.info? 77).map (fun i => (i.zero, i.size, i.bytes)) = some (some (.agg #[.int .u8 0, .int .i64 0, .int .i64 0]), 3, 24) := by kernel_rfl
theorem infoTokR : (Tryz.prog.info? 80).map (fun i => (i.zero, i.size, i.bytes)) = some (some (.agg #[.int .u8 0, .int .i64 0, .int .i64 0]), 3, 24) := by kernel_rfl
theorem bestAll_ok {d : List Int} {p : Nat} {k : Opt} (hk : optErr k = 0) (hp : p < d.length) : bestAll d (p : Nat) k = (best d p k.window.toNat k.chain.toNat, 0) := by
  unfold bestAll
  rw [if_neg (by rw [hk]; simp), if_neg (by omega)]
  rfl
theorem tokOwn_new {wo w : World} {q q' : Option Nat} (hB : ∀ x, q = some x → wo.heap.size ≤ x) (hs : wo.heap.size ≤ w.heap.size) {o : Obj} (h : Aft (w.alloc o) q q') : ∀ y, q' = some y → wo.heap.size ≤ y := by
  intro y hy
  rcases h with e | ⟨z, e, hz⟩
  · rw [e] at hy; exact hB y hy
  · rw [e] at hy; cases hy; simp at hz; omega
set_option maxHeartbeats 8000000 in
theorem rparse_any (w : World) (A : Option Addr) (n c : Nat) (d : List Int) (q : Option Nat) (k : Opt) (hS : SlArg w A n c (u8s d) q) (hn : n ≤ 1048576) (er : Int) (ts : List Tok) (her : er = optErr k) (hts : ts = parse d k) :
    Calls Tryz.prog 64 #[.slice A n c, .agg #[.int .i64 k.window, .int .i64 k.chain, .bool k.isLazy]] w fun e w' => ∃ A' m dd, e = .returned (.tuple #[.slice A' m dd, .int .i64 er]) ∧
      w'.ownsRow 0 80 3 (.slice A' m dd) m (tcells ts) ∧ (∀ y, (Value.slice A' m dd).ownBlock = some y → w.heap.size ≤ y) ∧ Fr w w' [] := by
  obtain ⟨i0, hi0, hz0, hz1, hz2⟩ := info_parts infoTokR
  have HS := Hd.mk hS
  have hl : d.length = n := by have := hS.len; simpa [u8s] using this
  have HE := Hd.mk her
  have HT := Hd.mk hts
  have her2 : er = 0 ∨ er = 72 := her ▸ optErr_two k
  clear hS her hts
  go_enter Tryz.func64, Tryz.ntmps64
  go_wp2_with (fail)
  refine (ropt_any _ k er HE.out).mono ?_
  rintro e w1 ⟨rfl, h1⟩
  have hbk := h1.blk (blk_new w (.cells #[.int .i64 k.window, .int .i64 k.chain, .bool k.isLazy] 90)) (by simp)
  have F1 := Hd.mk (((Fr.refl w []).alloc (.cells #[.int .i64 k.window, .int .i64 k.chain, .bool k.isLazy] 90)).trans h1 (by simp))
  obtain ⟨kb, hkb⟩ : ∃ kb, kb = w.heap.size := ⟨_, rfl⟩
  rw [← hkb] at hbk ⊢
  have HKB := Hd.mk hbk
  clear h1 hbk hkb
  rcases her2 with rfl | rfl
  · have HX : Hd (ts = parseF d k n 0) := ⟨by rw [HT.out]; unfold parse; rw [if_pos HE.out.symm, hl]⟩
    have hzb : kb < w1.heap.size := blk_lt HKB.out
    go_wp2
    go_loopg [7, 8] n (fun kq sv pv wr => ∃ (p : Nat) (A1 : Option Addr) (m d1 : Nat) (P : List Tok), sv = .slice A1 m d1 ∧ pv = .int .i64 (p : Nat) ∧ p + kq = n ∧ m ≤ p ∧ Hd (ts = P ++ parseF d k n p) ∧ Hd (wr.ownsRow 0 80 3 (.slice A1 m d1) m (tcells P)) ∧ Hd (∀ y, (Value.slice A1 m d1).ownBlock = some y → w1.heap.size ≤ y) ∧ Hd (Fr w1 wr []))
    case atStart => exact ⟨0, none, 0, 0, [], rfl, rfl, by omega, by omega, HX, ⟨own_nil _ _ _ _⟩, ⟨by intro y hy; cases hy⟩, ⟨Fr.refl _ _⟩⟩
    case round =>
      obtain ⟨p, A1, m, d1, P, rfl, rfl, hp, hmp, HP, HO, HB, HF⟩ := hrel
      by_cases h1 : p < n
      · have hkb := HF.out.blk HKB.out (by simp)
        have b0 := blk_cell hkb 0
        have b1 := blk_cell hkb 1
        have b2 := blk_cell hkb 2
        simp only [List.getElem?_toArray, List.getElem?_cons_zero, List.getElem?_cons_succ] at b0 b1 b2
        clear hkb
        obtain ⟨r1, hr1⟩ : ∃ r1, r1 = (best d p k.window.toNat k.chain.toNat).1 := ⟨_, rfl⟩
        obtain ⟨r2, hr2⟩ : ∃ r2, r2 = (best d p k.window.toNat k.chain.toNat).2 := ⟨_, rfl⟩
        have hgood := best_good (d := d) (p := p) (w := k.window.toNat) (ch := k.chain.toNat) (by omega)
        have hrb : r1 ≤ 258 ∧ (r1 ≠ 0 → p + r1 ≤ n) := by
          rw [hr1]
          rcases hgood with h | h
          · omega
          · omega
        have HR1 := Hd.mk hr1
        have HR2 := Hd.mk hr2
        obtain ⟨tk, htk⟩ : ∃ tk, tk = taken d k p := ⟨_, rfl⟩
        have HTK := Hd.mk htk
        have htk0 : tk = 0 ∨ tk = r1 := by rw [htk, hr1]; exact taken_good (by omega)
        have HST : Hd (parseF d k n p = tokAt d k p :: parseF d k n (p + stepAt d k p)) := ⟨parseF_step (by omega) (by omega)⟩
        clear hr1 hr2 hgood htk
        go_wp2_with (fail)
        refine (rbest_any wr A n c d q (p : Nat) k (HS.out.frame (F1.out.trans HF.out (by simp)) (by simp)) (by omega) ((r1, r2), 0) (by rw [bestAll_ok HE.out.symm (by omega), HR1.out, HR2.out])).mono ?_
        rintro e w3 ⟨rfl, h3g⟩
        have HF3 := Hd.mk (HF.out.trans h3g (by simp))
        have HO3 := Hd.mk (own_frame HO.out h3g (by simp))
        clear h3g b0 b1 b2
        have hkb := HF3.out.blk HKB.out (by simp)
        have b0 := blk_cell hkb 0
        have b1 := blk_cell hkb 1
        have b2 := blk_cell hkb 2
        simp only [List.getElem?_toArray, List.getElem?_cons_zero, List.getElem?_cons_succ] at b0 b1 b2
        clear hkb
        obtain ⟨lz, hlz⟩ : ∃ lz, lz = k.isLazy := ⟨_, rfl⟩
        rw [← hlz] at b2
        have HLZ := Hd.mk hlz
        clear hlz
        obtain ⟨bt, hbt⟩ : ∃ bt, bt = (decide (0 < r1) && (lz && decide (p + 1 < n))) := ⟨_, rfl⟩
        have HBT := Hd.mk hbt
        clear hbt
        go_upto_region 8 with (fail)
        go_cut [44] from 32 to 45 (fun s44 wd => s44 = .bool bt ∧ wd = w3)
        case first =>
          by_cases h2 : 0 < r1
          · cases lz with
            | true =>
              by_cases h3 : p + 1 < n
              · obtain rfl : bt = true := by rw [HBT.out, decide_eq_true h2, decide_eq_true h3]; rfl
                go_wp2
                go_meet
                exact ⟨by rw [show decide ((p : Int) + 1 < (n : Int)) = true from decide_eq_true (by omega)], rfl⟩
              · obtain rfl : bt = false := by rw [HBT.out, decide_eq_false h3]; simp
                go_wp2
                go_meet
                exact ⟨by rw [show decide ((p : Int) + 1 < (n : Int)) = false from decide_eq_false (by omega)], rfl⟩
            | false =>
              obtain rfl : bt = false := by rw [HBT.out]; simp
              go_wp2
              go_meet
              exact ⟨rfl, rfl⟩
          · obtain rfl : bt = false := by rw [HBT.out, decide_eq_false h2]; rfl
            obtain rfl : r1 = 0 := by omega
            go_wp2
            go_meet
            exact ⟨rfl, rfl⟩
        case rest =>
          obtain ⟨rfl, rfl⟩ := hcut
          obtain ⟨wa, rfl⟩ : ∃ wa : World, wa = wc := ⟨_, rfl⟩
          go_upto_if 44 with (fail)
          go_cut [9] from 45 to 57 (fun s9 wd => s9 = .int .i64 (tk : Nat) ∧ Hd (Fr wa wd []))
          case first =>
            cases bt with
            | false =>
              obtain rfl : tk = r1 := by
                rw [HTK.out]
                unfold taken
                rw [if_neg]
                · exact HR1.out.symm
                · intro h
                  have := HBT.out
                  rw [← HR1.out, ← HLZ.out, hl] at h
                  rw [decide_eq_true h.1, h.2.1, decide_eq_true h.2.2.1] at this
                  cases this
              go_wp2
              go_meet
              exact ⟨rfl, ⟨Fr.refl _ _⟩⟩
            | true =>
              have hbt := HBT.out
              simp only [Bool.true_eq, Bool.and_eq_true, decide_eq_true_eq] at hbt
              obtain ⟨hb1, hb2, hb3⟩ := hbt
              obtain ⟨s1, hs1⟩ : ∃ s1, s1 = (best d (p + 1) k.window.toNat k.chain.toNat).1 := ⟨_, rfl⟩
              obtain ⟨s2, hs2⟩ : ∃ s2, s2 = (best d (p + 1) k.window.toNat k.chain.toNat).2 := ⟨_, rfl⟩
              have hsg : s1 ≤ 258 := by
                have hgood := best_good (d := d) (p := p + 1) (w := k.window.toNat) (ch := k.chain.toNat) (by omega)
                rw [hs1]
                rcases hgood with h | h
                · omega
                · omega
              have HTK2 : Hd (tk = if r1 < s1 then 0 else r1) := ⟨by
                rw [HTK.out]
                unfold taken
                rw [← HR1.out, ← HLZ.out, hl, ← hs1]
                by_cases e : r1 < s1
                · rw [if_pos e, if_pos ⟨hb1, hb2, hb3, e⟩]
                · rw [if_neg e, if_neg (fun h => e h.2.2.2)]⟩
              have HS1 := Hd.mk hs1
              have HS2 := Hd.mk hs2
              clear hs1 hs2
              go_wp2_with (fail)
              refine (rbest_any wa A n c d q ((p : Int) + 1) ⟨k.window, k.chain, true⟩ (HS.out.frame (F1.out.trans HF3.out (by simp)) (by simp)) (by omega) ((s1, s2), 0) (by rw [show (p : Int) + 1 = ((p + 1 : Nat) : Int) from rfl, bestAll_ok (k := ⟨k.window, k.chain, true⟩) HE.out.symm (by omega), HS1.out, HS2.out])).mono ?_
              rintro e w4 ⟨rfl, h4g⟩
              have HF4 := Hd.mk h4g
              clear h4g
              by_cases h5 : r1 < s1
              · obtain rfl : tk = 0 := by rw [HTK2.out, if_pos h5]
                go_wp2
                go_meet
                exact ⟨rfl, HF4⟩
              · obtain rfl : tk = r1 := by rw [HTK2.out, if_neg h5]
                go_wp2
                go_meet
                exact ⟨rfl, HF4⟩
          case rest =>
            obtain ⟨rfl, HF5⟩ := hcut
            have HO5 := Hd.mk (own_frame HO3.out HF5.out (by simp))
            have HG5 := Hd.mk (HF3.out.trans HF5.out (by simp))
            by_cases h6 : tk = 0
            · subst h6
              have HTA : Hd (tokAt d k p = ⟨at0 d p, 0, 0⟩ ∧ stepAt d k p = 1) := ⟨by unfold tokAt stepAt; rw [← HTK.out]; exact ⟨rfl, rfl⟩⟩
              obtain ⟨b, off, e1, _, hcc⟩ := (HS.out.sl.frame (F1.out.trans HG5.out (by simp)) (by simp)) (by rw [u8s_length]; omega)
              subst e1
              have kc := (hcc p (by rw [u8s_length]; omega)).trans (u8s_at (by omega))
              obtain ⟨x, hx⟩ : ∃ x, x = at0 d p := ⟨_, rfl⟩
              rw [← hx] at kc
              have HXX := Hd.mk hx
              clear hcc hx b0 b1 b2
              go_wp2_with (at_builtin; refine wpList_append_sl rfl (.tmp 59) (.tmp 65) 35 rfl 80 i0 (.agg #[.int .u8 0, .int .i64 0, .int .i64 0]) 3 24 Tryz.underlying35 hi0 hz0 hz1 hz2 rfl (by decide) (.slice A1 m d1) m _ rfl (by exact HO5.out.alloc _) (some ⟨wc.heap.size, 0, none⟩) 1 1 [.int .u8 x, .int .i64 0, .int .i64 0] (some wc.heap.size) rfl rfl (by exact sl_of_blk (blk_new _ _)) (by intro h; cases h) (by intro u hu; simp at hu; rcases hu with rfl | rfl | rfl <;> rfl) (by unfold maxLen; omega) (by omega) ?_; intro A3 d3 w6 hown' hgrow haft; have O3 := Hd.mk hown'; have G3 := Hd.mk hgrow; have F3 := Hd.mk haft; clear hown' hgrow haft)
              go_roundg (gk - 1)
              case measure => omega
              case rel =>
                refine ⟨p + 1, A3, m + 1, d3, P ++ [tokAt d k p], rfl, by go_num, by omega, by omega, ⟨by rw [HP.out, HST.out, HTA.out.2, List.append_assoc]; rfl⟩, ⟨?_⟩, ⟨tokOwn_new HB.out HG5.out.size F3.out⟩, ⟨(HG5.out.alloc _).grown G3.out (fun y hy => .inr (HB.out y hy))⟩⟩
                rw [tcells_app, HTA.out.1, ← HXX.out]
                exact O3.out
            · obtain rfl : tk = r1 := by omega
              have e6 : ((tk : Int) == 0) = false := by simp; omega
              have HTA : Hd (tokAt d k p = ⟨0, tk, r2⟩ ∧ stepAt d k p = tk) := ⟨by unfold tokAt stepAt; rw [← HTK.out, if_neg h6, if_neg h6, ← HR2.out]; exact ⟨rfl, rfl⟩⟩
              clear b0 b1 b2
              go_wp2_with (at_builtin; refine wpList_append_sl rfl (.tmp 69) (.tmp 73) 35 rfl 80 i0 (.agg #[.int .u8 0, .int .i64 0, .int .i64 0]) 3 24 Tryz.underlying35 hi0 hz0 hz1 hz2 rfl (by decide) (.slice A1 m d1) m _ rfl (by exact HO5.out.alloc _) (some ⟨wc.heap.size, 0, none⟩) 1 1 [.int .u8 0, .int .i64 (tk : Nat), .int .i64 (r2 : Nat)] (some wc.heap.size) rfl rfl (by exact sl_of_blk (blk_new _ _)) (by intro h; cases h) (by intro u hu; simp at hu; rcases hu with rfl | rfl | rfl <;> rfl) (by unfold maxLen; omega) (by omega) ?_; intro A3 d3 w6 hown' hgrow haft; have O3 := Hd.mk hown'; have G3 := Hd.mk hgrow; have F3 := Hd.mk haft; clear hown' hgrow haft)
              go_roundg (gk - tk)
              case measure => omega
              case rel =>
                refine ⟨p + tk, A3, m + 1, d3, P ++ [tokAt d k p], rfl, by go_num, by omega, by omega, ⟨by rw [HP.out, HST.out, HTA.out.2, List.append_assoc]; rfl⟩, ⟨?_⟩, ⟨tokOwn_new HB.out HG5.out.size F3.out⟩, ⟨(HG5.out.alloc _).grown G3.out (fun y hy => .inr (HB.out y hy))⟩⟩
                rw [tcells_app, HTA.out.1]
                exact O3.out
      · obtain rfl : p = n := by omega
        have hpp : Hd (ts = P) := ⟨by rw [HP.out, parseF_end (by omega), List.append_nil]⟩
        go_wp2
        go_ret2
        exact ⟨A1, m, d1, rfl, by rw [hpp.out]; exact HO.out, fun y hy => Nat.le_trans F1.out.size (HB.out y hy), F1.out.trans HF.out (by simp)⟩
  · obtain rfl : ts = [] := by rw [HT.out]; unfold parse; rw [if_neg (by rw [← HE.out]; simp)]
    go_wp2
    go_ret2
    exact ⟨none, 0, 0, rfl, own_nil _ _ _ _, (by intro j hj; cases hj), F1.out⟩
end Go.Proofs.YtkdgfioigkijgaaGreat.Lz
set_option linter.unusedVariables false
set_option linter.unusedSimpArgs false
set_option maxRecDepth 100000
namespace Go.Proofs.YtkdgfioigkijgaaGreat.Lz
open Go.RowKit Go.Maps Go.Proofs.YtkdgfioigkijgaaGreat.Lib Go.Proofs.YtkdgfioigkijgaaGreat.Num Go.Proofs.YtkdgfioigkijgaaGreat.Bits
section
variable {w w' : World} {g : Nat} {A : Option Addr} {n c : Nat} {d : List Int} {q : Option Nat} {k : Opt} {B : Nat} {E : Option Addr} {ec kn : Nat}
theorem Fd.frame2 (h : Fd w g A n c d q k B E ec kn) {F : List Nat} (hf : Fr w w' F) (hF : ∀ y ∈ F, y ≠ g ∧ y ≠ B ∧ (Value.slice E kn ec).ownBlock ≠ some y ∧ q ≠ some y) : Fd w' g A n c d q k B E ec kn where
  blk := hf.blk h.blk (fun hm => (hF _ hm).1 rfl)
  data := h.data.frame hf (fun y hy hm => (hF _ hm).2.2.2 hy)
  len := h.len
  nc := h.nc
  byte := h.byte
  kle := h.kle
  map := Mp.frame (show Mp w B d kn from h.map) hf (fun hm => (hF _ hm).2.1 rfl)
  own := own_frame h.own hf (fun y hy hm => (hF _ hm).2.2.1 hy)
  qlt := fun y hy => Nat.lt_of_lt_of_le (h.qlt y hy) hf.size
  qne := h.qne
theorem Fd.apart (h : Fd w g A n c d q k B E ec kn) {v : Value} {m : Nat} {xs : List Value} (ho : w.ownsRow 0 77 3 v m xs) {y : Nat} (hy : v.ownBlock = some y) : y ≠ g ∧ y ≠ B ∧ (Value.slice E kn ec).ownBlock ≠ some y := by
  obtain ⟨cs, hcs⟩ := own_type ho hy
  refine ⟨?_, ?_, ?_⟩
  · exact blk_ne hcs h.blk (by decide)
  · rintro rfl
    obtain ⟨es, clock, hb⟩ := h.map_blk
    rw [hb] at hcs
    cases hcs
  · intro e
    obtain ⟨ds, hds⟩ := own_type h.own e
    exact blk_ne hcs hds (by decide) rfl
structure St (w wr : World) (kb g : Nat) (A : Option Addr) (n c : Nat) (d : List Int) (q : Option Nat) (k : Opt) (B : Nat) (E : Option Addr) (ec kn : Nat) (A1 : Option Addr) (m d1 : Nat) (P : List Tok) : Prop where
  own : wr.ownsRow 0 77 3 (.slice A1 m d1) m (tcells P)
  new : ∀ y, (Value.slice A1 m d1).ownBlock = some y → w.heap.size ≤ y
  fr : Fr w wr []
  opt : wr.heap[kb]? = some (.cells #[.int .i64 k.window, .int .i64 k.chain, .bool k.isLazy] 84 (0, 0))
  fd : Fd wr g A n c d q k B E ec kn
  rnew : ∀ y, (Value.slice E kn ec).ownBlock = some y → w.heap.size ≤ y
theorem St.best {wr w3 : World} {kb : Nat} {A1 : Option Addr} {m d1 : Nat} {P : List Tok} {E' : Option Addr} {ec' kn' : Nat} (h : St w wr kb g A n c d q k B E ec kn A1 m d1 P) (hg : w.heap.size ≤ g) (hB : w.heap.size ≤ B) (hgk : kb ≠ g ∧ kb ≠ B)
    (h1 : Fd w3 g A n c d q k B E' ec' kn') (h2 : Aft wr (Value.slice E kn ec).ownBlock (Value.slice E' kn' ec').ownBlock) (h3 : Fr wr w3 (g :: B :: (Value.slice E kn ec).ownBlock.toList)) : St w w3 kb g A n c d q k B E' ec' kn' A1 m d1 P where
  own := own_frame h.own h3 (fun y hy hm => by
    obtain ⟨n1, n2, n3⟩ := h.fd.apart h.own hy
    simp only [List.mem_cons, Option.mem_toList, Option.mem_def] at hm
    rcases hm with e | e | e
    · exact n1 e
    · exact n2 e
    · exact n3 e)
  new := h.new
  fr := h.fr.trans h3 (fun y hy hm => by
    simp only [List.mem_cons, Option.mem_toList, Option.mem_def] at hm
    rcases hm with e | e | e
    · omega
    · omega
    · have := h.rnew y e; omega)
  opt := h3.blk h.opt (fun hm => by
    simp only [List.mem_cons, Option.mem_toList, Option.mem_def] at hm
    rcases hm with e | e | e
    · exact hgk.1 e
    · exact hgk.2 e
    · obtain ⟨cs, hcs⟩ := own_type h.fd.own e
      exact blk_ne hcs h.opt (by decide) rfl)
  fd := h1
  rnew := fun y hy => by
    rcases h2 with e | ⟨z, e, hz⟩
    · rw [e] at hy; exact h.rnew y hy
    · rw [e] at hy; cases hy; exact Nat.le_trans h.fr.size hz
theorem St.push {wr w6 : World} {kb : Nat} {A1 A3 : Option Addr} {m d1 d3 : Nat} {P : List Tok} {t : Tok} {cs : Array Value} {ty : TypeId} (h : St w wr kb g A n c d q k B E ec kn A1 m d1 P) (hq : ∀ y, q = some y → y < w.heap.size) (hkb : kb < w.heap.size + 1)
    (h1 : w6.ownsRow 0 77 3 (.slice A3 (m + 1) d3) (m + 1) (tcells P ++ tcell t)) (h2 : (wr.alloc (.cells cs ty)).grownBy w6 (Value.slice A1 m d1).ownBlock) (h3 : Aft (wr.alloc (.cells cs ty)) (Value.slice A1 m d1).ownBlock (Value.slice A3 (m + 1) d3).ownBlock) : St w w6 kb g A n c d q k B E ec kn A3 (m + 1) d3 (P ++ [t]) := by
  have hfr : Fr wr w6 (Value.slice A1 m d1).ownBlock.toList := ((Fr.refl wr _).alloc _).grown h2 (fun y hy => .inl (by simp [hy]))
  refine ⟨by rw [tcells_app]; simpa [tcells] using h1, tokOwn_new h.new h.fr.size h3, ?_, hfr.blk h.opt (fun hm => ?_), h.fd.frame2 hfr (fun y hy => ?_), h.rnew⟩
  · exact h.fr.trans hfr (fun y hy hm => by have := h.new y (by simpa using hm); omega)
  · have hm' : (Value.slice A1 m d1).ownBlock = some kb := by simpa using hm
    obtain ⟨ds, hds⟩ := own_type h.own hm'
    exact blk_ne hds h.opt (by decide) rfl
  · have hy' : (Value.slice A1 m d1).ownBlock = some y := by simpa using hy
    obtain ⟨n1, n2, n3⟩ := h.fd.apart h.own hy'
    exact ⟨n1, n2, n3, fun e => by have := hq y e; have := h.new y hy'; omega⟩
end
set_option maxHeartbeats 8000000 in
theorem parse_any (w : World) (A : Option Addr) (n c : Nat) (d : List Int) (q : Option Nat) (k : Opt) (hS : SlArg w A n c (u8s d) q) (hby : Bytes d) (hn : n ≤ 1048576) (er : Int) (ts : List Tok) (her : er = optErr k) (hts : ts = parse d k) :
    Calls Tryz.prog 67 #[.slice A n c, .agg #[.int .i64 k.window, .int .i64 k.chain, .bool k.isLazy]] w fun e w' => ∃ A' m dd, e = .returned (.tuple #[.slice A' m dd, .int .i64 er]) ∧
      w'.ownsRow 0 77 3 (.slice A' m dd) m (tcells ts) ∧ (∀ y, (Value.slice A' m dd).ownBlock = some y → w.heap.size ≤ y) ∧ Fr w w' [] := by
  obtain ⟨i0, hi0, hz0, hz1, hz2⟩ := info_parts infoTok
  have HS := Hd.mk hS
  have hl : d.length = n := by have := hS.len; simpa [u8s] using this
  have HE := Hd.mk her
  have HT := Hd.mk hts
  have HBy := Hd.mk hby
  have her2 : er = 0 ∨ er = 72 := her ▸ optErr_two k
  clear hS her hts hby
  go_enter Tryz.func67, Tryz.ntmps67
  go_wp2_with (fail)
  refine (opt_any _ k er HE.out).mono ?_
  rintro e w1 ⟨rfl, h1⟩
  have hbk := h1.blk (blk_new w (.cells #[.int .i64 k.window, .int .i64 k.chain, .bool k.isLazy] 84)) (by simp)
  have F1 := Hd.mk (((Fr.refl w []).alloc (.cells #[.int .i64 k.window, .int .i64 k.chain, .bool k.isLazy] 84)).trans h1 (by simp))
  obtain ⟨kb, hkb⟩ : ∃ kb, kb = w.heap.size := ⟨_, rfl⟩
  have hkbw : kb = w.heap.size := hkb
  rw [← hkb] at hbk ⊢
  have b0 := blk_cell hbk 0
  have b1 := blk_cell hbk 1
  have b2 := blk_cell hbk 2
  simp only [List.getElem?_toArray, List.getElem?_cons_zero, List.getElem?_cons_succ] at b0 b1 b2
  have HKB := Hd.mk hbk
  have HKW := Hd.mk hkbw
  clear h1 hbk hkb hkbw
  rcases her2 with rfl | rfl
  · have HX : Hd (ts = parseF d k n 0) := ⟨by rw [HT.out]; unfold parse; rw [if_pos HE.out.symm, hl]⟩
    have hzb : kb < w1.heap.size := blk_lt HKB.out
    go_wp2_with (fail)
    refine (new_any w1 A n c d q k (HS.out.frame F1.out (by simp)) HBy.out).mono ?_
    rintro e w2 ⟨g, B, rfl, hf, hg, hB, h2⟩
    have HF2 := Hd.mk hf
    have F2 := Hd.mk (F1.out.trans h2 (by simp))
    have HKB2 := Hd.mk (h2.blk HKB.out (by simp))
    have hg1 : w.heap.size ≤ g := Nat.le_trans F1.out.size hg
    have hB1 : w.heap.size ≤ B := Nat.le_trans F1.out.size hB
    have hgk : kb ≠ g ∧ kb ≠ B := by omega
    have hkb1 : kb < w.heap.size + 1 := by have := HKW.out; omega
    clear hf h2 b0 b1 b2
    go_wp2
    have HQ : Hd (∀ y, q = some y → y < w.heap.size) := ⟨HS.out.lt⟩
    have HST0 : Hd (St w w2 kb g A n c d q k B none 0 0 none 0 0 []) := ⟨⟨own_nil _ _ _ _, (by intro y hy; cases hy), F2.out, HKB2.out, HF2.out, (by intro y hy; cases hy)⟩⟩
    go_loopg [7, 9] n (fun kq sv pv wr => ∃ (p : Nat) (A1 : Option Addr) (m d1 : Nat) (P : List Tok) (E : Option Addr) (ec kn : Nat), sv = .slice A1 m d1 ∧ pv = .int .i64 (p : Nat) ∧ p + kq = n ∧ m ≤ p ∧ Hd (ts = P ++ parseF d k n p) ∧ Hd (St w wr kb g A n c d q k B E ec kn A1 m d1 P))
    case atStart => exact ⟨0, none, 0, 0, [], none, 0, 0, rfl, rfl, by omega, by omega, HX, HST0⟩
    case round =>
      obtain ⟨p, A1, m, d1, P, E, ec, kn, rfl, rfl, hp, hmp, HP, HSt⟩ := hrel
      by_cases h1 : p < n
      · obtain ⟨r1, hr1⟩ : ∃ r1, r1 = (best d p k.window.toNat k.chain.toNat).1 := ⟨_, rfl⟩
        obtain ⟨r2, hr2⟩ : ∃ r2, r2 = (best d p k.window.toNat k.chain.toNat).2 := ⟨_, rfl⟩
        have hgood := best_good (d := d) (p := p) (w := k.window.toNat) (ch := k.chain.toNat) (by omega)
        have hrb : r1 ≤ 258 ∧ (r1 ≠ 0 → p + r1 ≤ n) := by
          rw [hr1]
          rcases hgood with h | h
          · omega
          · omega
        have HR1 := Hd.mk hr1
        have HR2 := Hd.mk hr2
        obtain ⟨tk, htk⟩ : ∃ tk, tk = taken d k p := ⟨_, rfl⟩
        have HTK := Hd.mk htk
        have htk0 : tk = 0 ∨ tk = r1 := by rw [htk, hr1]; exact taken_good (by omega)
        have HSTP : Hd (parseF d k n p = tokAt d k p :: parseF d k n (p + stepAt d k p)) := ⟨parseF_step (by omega) (by omega)⟩
        clear hr1 hr2 hgood htk
        go_wp2_with (fail)
        refine (best_any wr p h1 (by omega) HE.out.symm (r1, r2) (by rw [HR1.out, HR2.out]) HSt.out.fd).mono ?_
        rintro e w3 ⟨rfl, E3, ec3, kn3, q1, q2, q3⟩
        have HSt3 := Hd.mk (HSt.out.best hg1 hB1 hgk q1 q2 q3)
        clear q1 q2 q3
        have hkb := HSt3.out.opt
        have b2 := blk_cell hkb 2
        simp only [List.getElem?_toArray, List.getElem?_cons_zero, List.getElem?_cons_succ] at b2
        clear hkb
        obtain ⟨lz, hlz⟩ : ∃ lz, lz = k.isLazy := ⟨_, rfl⟩
        rw [← hlz] at b2
        have HLZ := Hd.mk hlz
        clear hlz
        obtain ⟨bt, hbt⟩ : ∃ bt, bt = (decide (0 < r1) && (lz && decide (p + 1 < n))) := ⟨_, rfl⟩
        have HBT := Hd.mk hbt
        clear hbt
        go_upto_region 9 with (fail)
        go_cut [45] from 33 to 46 (fun s44 wd => s44 = .bool bt ∧ wd = w3)
        case first =>
          by_cases h2 : 0 < r1
          · cases lz with
            | true =>
              by_cases h3 : p + 1 < n
              · obtain rfl : bt = true := by rw [HBT.out, decide_eq_true h2, decide_eq_true h3]; rfl
                go_wp2
                go_meet
                exact ⟨by rw [show decide ((p : Int) + 1 < (n : Int)) = true from decide_eq_true (by omega)], rfl⟩
              · obtain rfl : bt = false := by rw [HBT.out, decide_eq_false h3]; simp
                go_wp2
                go_meet
                exact ⟨by rw [show decide ((p : Int) + 1 < (n : Int)) = false from decide_eq_false (by omega)], rfl⟩
            | false =>
              obtain rfl : bt = false := by rw [HBT.out]; simp
              go_wp2
              go_meet
              exact ⟨rfl, rfl⟩
          · obtain rfl : bt = false := by rw [HBT.out, decide_eq_false h2]; rfl
            obtain rfl : r1 = 0 := by omega
            go_wp2
            go_meet
            exact ⟨rfl, rfl⟩
        case rest =>
          obtain ⟨rfl, rfl⟩ := hcut
          obtain ⟨wa, rfl⟩ : ∃ wa : World, wa = wc := ⟨_, rfl⟩
          clear b2
          go_upto_if 45 with (fail)
          go_cut [10] from 46 to 56 (fun s9 wd => ∃ E5 ec5 kn5, s9 = .int .i64 (tk : Nat) ∧ Hd (St w wd kb g A n c d q k B E5 ec5 kn5 A1 m d1 P))
          case first =>
            cases bt with
            | false =>
              obtain rfl : tk = r1 := by
                rw [HTK.out]
                unfold taken
                rw [if_neg]
                · exact HR1.out.symm
                · intro h
                  have := HBT.out
                  rw [← HR1.out, ← HLZ.out, hl] at h
                  rw [decide_eq_true h.1, h.2.1, decide_eq_true h.2.2.1] at this
                  cases this
              go_wp2
              go_meet
              exact ⟨E3, ec3, kn3, rfl, HSt3⟩
            | true =>
              have hbt := HBT.out
              simp only [Bool.true_eq, Bool.and_eq_true, decide_eq_true_eq] at hbt
              obtain ⟨hb1, hb2, hb3⟩ := hbt
              obtain ⟨s1, hs1⟩ : ∃ s1, s1 = (best d (p + 1) k.window.toNat k.chain.toNat).1 := ⟨_, rfl⟩
              obtain ⟨s2, hs2⟩ : ∃ s2, s2 = (best d (p + 1) k.window.toNat k.chain.toNat).2 := ⟨_, rfl⟩
              have hsg : s1 ≤ 258 := by
                have hgood := best_good (d := d) (p := p + 1) (w := k.window.toNat) (ch := k.chain.toNat) (by omega)
                rw [hs1]
                rcases hgood with h | h
                · omega
                · omega
              have HTK2 : Hd (tk = if r1 < s1 then 0 else r1) := ⟨by
                rw [HTK.out]
                unfold taken
                rw [← HR1.out, ← HLZ.out, hl, ← hs1]
                by_cases e : r1 < s1
                · rw [if_pos e, if_pos ⟨hb1, hb2, hb3, e⟩]
                · rw [if_neg e, if_neg (fun h => e h.2.2.2)]⟩
              have HS1 := Hd.mk hs1
              have HS2 := Hd.mk hs2
              clear hs1 hs2
              go_wp2_with (fail)
              refine (best_any wa (p + 1) hb3 (by omega) HE.out.symm (s1, s2) (by rw [HS1.out, HS2.out]) HSt3.out.fd).mono ?_
              rintro e w4 ⟨rfl, E4, ec4, kn4, q1, q2, q3⟩
              have HSt4 := Hd.mk (HSt3.out.best hg1 hB1 hgk q1 q2 q3)
              clear q1 q2 q3
              by_cases h5 : r1 < s1
              · obtain rfl : tk = 0 := by rw [HTK2.out, if_pos h5]
                go_wp2
                go_meet
                exact ⟨E4, ec4, kn4, rfl, HSt4⟩
              · obtain rfl : tk = r1 := by rw [HTK2.out, if_neg h5]
                go_wp2
                go_meet
                exact ⟨E4, ec4, kn4, rfl, HSt4⟩
          case rest =>
            obtain ⟨E5, ec5, kn5, rfl, HSt5⟩ := hcut
            by_cases h6 : tk = 0
            · subst h6
              have HTA : Hd (tokAt d k p = ⟨at0 d p, 0, 0⟩ ∧ stepAt d k p = 1) := ⟨by unfold tokAt stepAt; rw [← HTK.out]; exact ⟨rfl, rfl⟩⟩
              obtain ⟨b, off, e1, _, hcc⟩ := HSt5.out.fd.data (by rw [u8s_length]; omega)
              subst e1
              have kc := (hcc p (by rw [u8s_length]; omega)).trans (u8s_at (by omega))
              obtain ⟨x, hx⟩ : ∃ x, x = at0 d p := ⟨_, rfl⟩
              rw [← hx] at kc
              have HXX := Hd.mk hx
              clear hcc hx
              go_wp2_with (at_builtin; refine wpList_append_sl rfl (.tmp 58) (.tmp 64) 41 rfl 77 i0 (.agg #[.int .u8 0, .int .i64 0, .int .i64 0]) 3 24 Tryz.underlying41 hi0 hz0 hz1 hz2 rfl (by decide) (.slice A1 m d1) m _ rfl (by exact HSt5.out.own.alloc _) (some ⟨wc.heap.size, 0, none⟩) 1 1 [.int .u8 x, .int .i64 0, .int .i64 0] (some wc.heap.size) rfl rfl (by exact sl_of_blk (blk_new _ _)) (by intro h; cases h) (by intro u hu; simp at hu; rcases hu with rfl | rfl | rfl <;> rfl) (by unfold maxLen; omega) (by omega) ?_; intro A3 d3 w6 hown' hgrow haft; have O3 := Hd.mk hown'; have G3 := Hd.mk hgrow; have F3 := Hd.mk haft; clear hown' hgrow haft)
              go_roundg (gk - 1)
              case measure => omega
              case rel =>
                exact ⟨p + 1, A3, m + 1, d3, P ++ [⟨x, 0, 0⟩], E5, ec5, kn5, rfl, by go_num, by omega, by omega, ⟨by rw [HP.out, HSTP.out, HTA.out.1, HTA.out.2, HXX.out, List.append_assoc]; rfl⟩, ⟨HSt5.out.push (t := ⟨x, 0, 0⟩) HQ.out hkb1 O3.out G3.out F3.out⟩⟩
            · obtain rfl : tk = r1 := by omega
              have e6 : ((tk : Int) == 0) = false := by simp; omega
              have HTA : Hd (tokAt d k p = ⟨0, tk, r2⟩ ∧ stepAt d k p = tk) := ⟨by unfold tokAt stepAt; rw [← HTK.out, if_neg h6, if_neg h6, ← HR2.out]; exact ⟨rfl, rfl⟩⟩
              go_wp2_with (at_builtin; refine wpList_append_sl rfl (.tmp 68) (.tmp 72) 41 rfl 77 i0 (.agg #[.int .u8 0, .int .i64 0, .int .i64 0]) 3 24 Tryz.underlying41 hi0 hz0 hz1 hz2 rfl (by decide) (.slice A1 m d1) m _ rfl (by exact HSt5.out.own.alloc _) (some ⟨wc.heap.size, 0, none⟩) 1 1 [.int .u8 0, .int .i64 (tk : Nat), .int .i64 (r2 : Nat)] (some wc.heap.size) rfl rfl (by exact sl_of_blk (blk_new _ _)) (by intro h; cases h) (by intro u hu; simp at hu; rcases hu with rfl | rfl | rfl <;> rfl) (by unfold maxLen; omega) (by omega) ?_; intro A3 d3 w6 hown' hgrow haft; have O3 := Hd.mk hown'; have G3 := Hd.mk hgrow; have F3 := Hd.mk haft; clear hown' hgrow haft)
              go_roundg (gk - tk)
              case measure => omega
              case rel =>
                exact ⟨p + tk, A3, m + 1, d3, P ++ [⟨0, tk, r2⟩], E5, ec5, kn5, rfl, by go_num, by omega, by omega, ⟨by rw [HP.out, HSTP.out, HTA.out.1, HTA.out.2, List.append_assoc]; rfl⟩, ⟨HSt5.out.push (t := ⟨0, tk, r2⟩) HQ.out hkb1 O3.out G3.out F3.out⟩⟩
      · obtain rfl : p = n := by omega
        have hpp : Hd (ts = P) := ⟨by rw [HP.out, parseF_end (by omega), List.append_nil]⟩
        go_wp2
        go_ret2
        exact ⟨A1, m, d1, rfl, by rw [hpp.out]; exact HSt.out.own, HSt.out.new, HSt.out.fr⟩
  · obtain rfl : ts = [] := by rw [HT.out]; unfold parse; rw [if_neg (by rw [← HE.out]; simp)]
    go_wp2
    go_ret2
    exact ⟨none, 0, 0, rfl, own_nil _ _ _ _, (by intro j hj; cases hj), F1.out⟩
end Go.Proofs.YtkdgfioigkijgaaGreat.Lz
set_option linter.unusedVariables false
set_option linter.unusedSimpArgs false
set_option maxRecDepth 100000
namespace Go.Proofs.YtkdgfioigkijgaaGreat.Prs
open Go.RowKit Go.Proofs.YtkdgfioigkijgaaGreat.Lib Go.Proofs.YtkdgfioigkijgaaGreat.Ints Go.Proofs.YtkdgfioigkijgaaGreat.Lz Go.Proofs.YtkdgfioigkijgaaGreat.Num Go.Proofs.YtkdgfioigkijgaaGreat.Bits Go.Proofs.YtkdgfioigkijgaaGreat.Blk
theorem parseF_right {d : List Int} {k : Opt} (hk : optErr k = 0) (hb : Bytes d) : ∀ f p, (∀ t ∈ parseF d k f p, right t = true) ∧ LitB (parseF d k f p)
  | 0, _ => ⟨fun t h => by simp [parseF] at h, fun t h => by simp [parseF] at h⟩
  | f + 1, p => by
    unfold parseF
    by_cases hp : p < d.length
    · rw [if_pos hp]
      obtain ⟨i1, i2⟩ := parseF_right hk hb f (p + stepAt d k p)
      have h1 := (tok_right hk hp).1
      have h2 := at0_byte hb hp
      refine ⟨fun t ht => ?_, fun t ht => ?_⟩
      · rcases List.mem_cons.1 ht with rfl | ht
        · exact h1
        · exact i1 t ht
      · rcases List.mem_cons.1 ht with rfl | ht
        · unfold tokAt
          split
          · exact h2
          · exact ⟨Int.le_refl 0, (by decide : (0 : Int) ≤ 255)⟩
        · exact i2 t ht
    · rw [if_neg hp]
      exact ⟨fun t h => absurd h List.not_mem_nil, fun t h => absurd h List.not_mem_nil⟩
theorem parse_right {d : List Int} {k : Opt} (hk : optErr k = 0) (hb : Bytes d) : (∀ t ∈ parse d k, right t = true) ∧ LitB (parse d k) := by
  unfold parse
  rw [if_pos hk]
  exact parseF_right hk hb _ _
theorem own_tok {w : World} {A : Option Addr} {n c : Nat} {l : List Tok} (h : w.ownsRow 0 77 3 (.slice A n c) n (tcells l)) : n = l.length ∧ Sl w A (tcells l) (Value.slice A n c).ownBlock ∧ l.length ≤ c ∧ c ≤ maxLen ∧ (A = none → l.length = 0 ∧ c = 0) ∧ ∀ y, (Value.slice A n c).ownBlock = some y → y < w.heap.size := by
  have h0 : n = l.length := by
    have h1 := h.1
    have h2 := flat_len tcell 3 (fun _ => rfl) l
    unfold tcells at h1
    omega
  subst h0
  refine ⟨rfl, ?_, ?_, ?_, fun hA => own_none h hA, fun y hy => by obtain ⟨cs, hc⟩ := own_type h hy; exact blk_lt hc⟩
  · intro hx
    rcases h.2 with ⟨h', h''⟩ | ⟨g, cap, cur, h', hb, hh, hnc, hcm, hcs, ht⟩
    · have := h.1
      omega
    · injection h' with h1 _ _
      subst h1
      refine ⟨g, 0, rfl, rfl, fun j hj => ?_⟩
      rw [Nat.zero_add, blk_cell hh, ← ht, List.getElem?_take, if_pos (by have := h.1; omega)]
      simp
  · obtain ⟨A2, c2, e, h1, h2, _⟩ := own_slice h
    injection e with _ _ e
    omega
  · obtain ⟨A2, c2, e, h1, h2, _⟩ := own_slice h
    injection e with _ _ e
    omega
def popErr (k : Opt) (most : Int) : Int := if optErr k ≠ 0 ∨ most < 1 ∨ 65536 < most then 100 else 0
theorem popErr_zero {k : Opt} {most : Int} (h : popErr k most = 0) : optErr k = 0 ∧ 1 ≤ most ∧ most ≤ 65536 := by
  unfold popErr at h
  split at h
  · cases h
  · omega
set_option maxHeartbeats 4000000 in
theorem popt_any (w : World) (k : Opt) (most er : Int) (he : er = popErr k most) : Calls Tryz.prog 108 #[.agg #[.int .i64 k.window, .int .i64 k.chain, .bool k.isLazy, .int .i64 most]] w fun e w' => e = .returned (.int .i64 er) ∧ Fr w w' [] := by
  obtain ⟨e1, he1⟩ : ∃ e, e = optErr k := ⟨_, rfl⟩
  have HE := Hd.mk he1
  have h2 : e1 = 0 ∨ e1 = 72 := he1 ▸ optErr_two k
  have HR : Hd (er = if e1 ≠ 0 ∨ most < 1 ∨ 65536 < most then 100 else 0) := ⟨by rw [he, he1]; rfl⟩
  clear he he1
  go_enter Tryz.func108, Tryz.ntmps108
  go_wp2_with (fail)
  refine (opt_any _ k e1 HE.out).mono ?_
  rintro e w1 ⟨rfl, h1⟩
  have hbk := h1.blk (blk_new w (.cells #[.int .i64 k.window, .int .i64 k.chain, .bool k.isLazy, .int .i64 most] 86)) (by simp)
  have F1 := Hd.mk (((Fr.refl w []).alloc (.cells #[.int .i64 k.window, .int .i64 k.chain, .bool k.isLazy, .int .i64 most] 86)).trans h1 (by simp))
  have b3 := blk_cell hbk 3
  simp only [List.getElem?_toArray, List.getElem?_cons_zero, List.getElem?_cons_succ] at b3
  clear h1 hbk
  rcases h2 with rfl | rfl
  · by_cases h3 : most < 1
    · obtain rfl : er = 100 := by rw [HR.out, if_pos (.inr (.inl h3))]
      go_wp2
      go_ret
      exact ⟨rfl, F1.out⟩
    · by_cases h4 : 65536 < most
      · obtain rfl : er = 100 := by rw [HR.out, if_pos (.inr (.inr h4))]
        go_wp2
        go_ret
        exact ⟨rfl, F1.out⟩
      · obtain rfl : er = 0 := by rw [HR.out, if_neg (by omega)]
        go_wp2
        go_ret
        exact ⟨rfl, F1.out⟩
  · obtain rfl : er = 100 := by rw [HR.out, if_pos (.inl (by decide))]
    go_wp2
    go_ret
    exact ⟨rfl, F1.out⟩
theorem popErr_two (k : Opt) (most : Int) : popErr k most = 0 ∨ popErr k most = 100 := by unfold popErr; split; exact .inr rfl; exact .inl rfl
set_option maxHeartbeats 4000000 in
theorem check_any (w : World) (A : Option Addr) (n c : Nat) (hn : n ≤ 268435456) (k : Opt) (most er : Int) (he : er = popErr k most) : Calls Tryz.prog 66 #[.slice A n c, .agg #[.int .i64 k.window, .int .i64 k.chain, .bool k.isLazy, .int .i64 most]] w fun e w' => e = .returned (.int .i64 er) ∧ Fr w w' [] := by
  go_enter Tryz.func66, Tryz.ntmps66
  have F0 := Hd.mk ((Fr.refl w []).alloc (.cells #[.int .i64 k.window, .int .i64 k.chain, .bool k.isLazy, .int .i64 most] 86))
  go_wp2_with (fail)
  refine (popt_any _ k most er he).mono ?_
  rintro e w1 ⟨rfl, h1⟩
  have F1 := Hd.mk (F0.out.trans h1 (by simp))
  clear h1 F0 he
  go_wp2
  go_ret
  exact ⟨rfl, F1.out⟩
def PrPost (w w' : World) (d : List Int) (l : List Tok) (most : Nat) (er : Int) (v : Value) : Prop :=
  (er ≠ 0 → v = .slice none 0 0) ∧ (er = 0 → ∃ J, 1 ≤ J ∧ l.length ≤ J * most ∧ (J = 1 ∨ (J - 1) * most < l.length) ∧ w'.ownsRow 0 5 1 v ((btN l most J + 7) / 8) (u8s (bytesOf (numOf (PBx l d most (List.range J))) (btN l most J))) ∧ Aft w none v.ownBlock) ∧ Fr w w' []
set_option maxHeartbeats 4000000 in
theorem press_any (w : World) (A : Option Addr) (n c : Nat) (d : List Int) (q : Option Nat) (k : Opt) (most er : Int) (he : er = popErr k most) (hS : SlArg w A n c (u8s d) q) (hby : Bytes d) (hn : n ≤ 1048576) :
    Calls Tryz.prog 36 #[.slice A n c, .agg #[.int .i64 k.window, .int .i64 k.chain, .bool k.isLazy, .int .i64 most]] w fun e w' => ∃ v, e = .returned (.tuple #[v, .int .i64 er]) ∧ PrPost w w' d (parse d k) most.toNat er v := by
  have HS := Hd.mk hS
  have hl : d.length = n := by have := hS.len; simpa [u8s] using this
  have HBY := Hd.mk hby
  have h2 : er = 0 ∨ er = 100 := he ▸ popErr_two k most
  have HE := Hd.mk he
  clear he hS hby
  go_enter Tryz.func36, Tryz.ntmps36
  have F0 := Hd.mk ((Fr.refl w []).alloc (.cells #[.int .i64 k.window, .int .i64 k.chain, .bool k.isLazy, .int .i64 most] 86))
  go_wp2_with (fail)
  refine (check_any _ A n c (by omega) k most er HE.out).mono ?_
  rintro e w1 ⟨rfl, h1⟩
  have F1 := Hd.mk (F0.out.trans h1 (by simp))
  have hbk := Hd.mk (h1.blk (blk_new w (.cells #[.int .i64 k.window, .int .i64 k.chain, .bool k.isLazy, .int .i64 most] 86)) (by simp))
  clear h1 F0
  rcases h2 with rfl | rfl
  · obtain ⟨hk0, hm1, hm2⟩ := popErr_zero HE.out.symm
    have HK0 := Hd.mk hk0
    have b0 := blk_cell hbk.out 0
    have b1 := blk_cell hbk.out 1
    have b2 := blk_cell hbk.out 2
    have b3 := blk_cell hbk.out 3
    simp only [List.getElem?_toArray, List.getElem?_cons_zero, List.getElem?_cons_succ] at b0 b1 b2 b3
    clear hk0
    go_wp2_with (fail)
    have hS1 := HS.out.frame F1.out (by simp)
    refine (parse_any w1 A n c d q k hS1 HBY.out hn (optErr k) (parse d k) rfl rfl).mono ?_
    rintro e w2 ⟨A', m, dd, rfl, o2, n2, h2⟩
    have F2 := Hd.mk (F1.out.trans h2 (by simp))
    have hbk2 := Hd.mk (h2.blk hbk.out (by simp))
    have b3' := blk_cell hbk2.out 3
    simp only [List.getElem?_toArray, List.getElem?_cons_zero, List.getElem?_cons_succ] at b3'
    have O2 := Hd.mk o2
    have N2 := Hd.mk n2
    clear o2 n2 h2 b0 b1 b2 b3 hS1
    obtain ⟨M, rfl⟩ := Int.eq_ofNat_of_zero_le (show 0 ≤ most by omega)
    obtain ⟨p1, p2, p3, p4⟩ := parse_law (d := d) HK0.out
    obtain ⟨g1, g2⟩ := parse_right HK0.out HBY.out
    have hS2 := HS.out.frame F2.out (by simp)
    subst hl
    go_wp2_with (fail)
    obtain ⟨t1, t2, t3, t4, t5, t6⟩ := own_tok O2.out
    subst t1
    have hd2 := hS2.le
    have hA2 : A = none → d.length = 0 ∧ c = 0 := fun h => hS2.nil h
    have hp2 : ∀ b, b ∈ (Value.slice A' (parse d k).length dd).ownBlock.toList ++ q.toList → b < w2.heap.size := fun b hb => by
      rcases List.mem_append.1 hb with h | h
      · exact t6 b (by simpa using h)
      · exact hS2.lt b (by simpa using h)
    have hsl2 := hS2.sl
    have hmx2 := hS2.max
    have b1 : 1 ≤ M := by omega
    have b2 : M ≤ 65536 := by omega
    have b3 : (parse d k).length ≤ 134217728 := by omega
    have b4 : d.length ≤ 268435456 := by omega
    have CW := written_any w2 dd c M A' A (parse d k) d (Value.slice A' (parse d k).length dd).ownBlock q t2 t3 t4 t5 hsl2 hd2 hmx2 hA2 hp2 HBY.out g1 g2 p3 b1 b2 b3 b4
    refine (callsIn_wide.1 CW).mono ?_
    rintro e w3 ⟨J, v, j1, j2, j3, rfl, o3, a3, h3⟩
    have HP3 : Hd (PrPost w w3 d (parse d k) ((M : Int).toNat) 0 v) := ⟨⟨fun h => absurd rfl h, fun _ => ⟨J, j1, by rw [Int.toNat_natCast]; exact j2, by rw [Int.toNat_natCast]; exact j3, o3, (Aft.refl w none).trans a3 F2.out.size⟩, F2.out.trans h3 (by simp)⟩⟩
    clear o3 a3 h3 t2 t3 t4 t5 t6 g1 g2 p1 p2 p3 p4 b3' j2 j3
    go_wp2
    (try simp only [Exit.inBlock, Exit.then])
    refine bodyPost_ret (results_tmp2 rfl _ _ _) rfl ?_
    exact ⟨v, rfl, HP3.out⟩
  · go_wp2
    (try simp only [Exit.inBlock, Exit.then])
    refine bodyPost_ret (results_tmp2 rfl _ _ _) rfl ?_
    exact ⟨_, rfl, fun _ => rfl, fun h => absurd h (by decide), F1.out⟩
end Go.Proofs.YtkdgfioigkijgaaGreat.Prs
