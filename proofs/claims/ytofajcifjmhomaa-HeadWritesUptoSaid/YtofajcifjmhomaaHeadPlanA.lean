/- Chapter 08: can, cut, order walked. No condition. -/
import Derived.Test.YtofajcifjmhomaaHeadPlan
import Derived.Test.YtofajcifjmhomaaCodeC
set_option linter.unusedVariables false
set_option linter.unusedSimpArgs false
set_option maxRecDepth 100000
namespace Go.Proofs.Ytofajcifjmhomaa.Head
open Go.RowKit Go.Proofs.Ytofajcifjmhomaa.Lib Go.Proofs.Ytofajcifjmhomaa.Ints Go.Proofs.Ytofajcifjmhomaa.Runs
theorem i64_at {w : World} {A : Option Addr} {l : List Int} {q : Option Nat} (h : Sl w A (i64s l) q) {i : Nat} (hi : i < l.length) {b off : Nat} (hA : A = some ⟨b, off, none⟩) : w.cell? ⟨b, off + i, none⟩ = some (.int .i64 (l.getD i 0)) := by
  obtain ⟨b', off', h1, _, hc⟩ := h (by rw [i64s_length]; omega)
  rw [hA] at h1
  cases h1
  rw [hc i (by rw [i64s_length]; omega), i64s_get, List.getD_eq_getElem?_getD, List.getElem?_eq_getElem hi]
  rfl
set_option maxHeartbeats 4000000 in
theorem can_any (w : World) (A B : Option Addr) (n c m d : Nat) (lit dist : List Int) (p q : Option Nat) (hX : SlArg w A n c (i64s lit) p) (hY : SlArg w B m d (i64s dist) q) (b : Bool) (hb : b = okH lit dist) :
    Calls Try.prog 69 #[.slice A n c, .slice B m d] w fun e w' => e = .returned (.bool b) ∧ Fr w w' [] := by
  have hn : lit.length = n := by have := hX.len; simpa [i64s] using this
  have hm : dist.length = m := by have := hY.len; simpa [i64s] using this
  have HX := Hd.mk hX
  have HY := Hd.mk hY
  have HB : Hd (b = decide (257 ≤ n ∧ n ≤ 286 ∧ m ≤ 30 ∧ Code.check lit = 0 ∧ Code.check dist = 0 ∧ lit.getD 256 0 ≠ 0)) := ⟨by rw [hb, ← hn, ← hm]; rfl⟩
  have hn2 := hX.le
  have hn3 := hX.max
  have hm2 := hY.le
  have hm3 := hY.max
  unfold maxLen at hn3 hm3
  clear hX hY hb
  go_enter Try.func69, Try.ntmps69
  by_cases h1 : 257 ≤ n
  · by_cases h2 : n ≤ 286
    · by_cases h3 : m ≤ 30
      · go_wp2_with (fail)
        refine (Code.check_any w A n c lit p HX.out _ rfl).mono ?_
        rintro e w1 ⟨rfl, h⟩
        have F1 := Hd.mk h
        clear h
        obtain ⟨k, hk⟩ : ∃ k, k = Code.check lit := ⟨_, rfl⟩
        rw [← hk] at HB ⊢
        have HK := Hd.mk hk
        clear hk
        by_cases h4 : k = 0
        · subst h4
          go_wp2_with (fail)
          refine (Code.check_any w1 B m d dist q (HY.out.frame F1.out (by simp)) _ rfl).mono ?_
          rintro e w2 ⟨rfl, h⟩
          have F2 := Hd.mk (F1.out.trans h (by simp))
          clear h
          obtain ⟨k2, hk⟩ : ∃ k, k = Code.check dist := ⟨_, rfl⟩
          rw [← hk] at HB ⊢
          clear hk
          by_cases h5 : k2 = 0
          · subst h5
            obtain ⟨bx, ox, rfl, _, _⟩ := HX.out.sl (by rw [i64s_length]; omega)
            have k0 := i64_at (HX.out.sl.frame F2.out (by simp)) (i := 256) (by omega) rfl
            obtain ⟨z, hz⟩ : ∃ z, z = lit.getD 256 0 := ⟨_, rfl⟩
            rw [← hz] at HB k0
            clear hz
            by_cases h6 : z = 0
            · subst h6
              obtain rfl : b = false := by rw [HB.out]; exact decide_eq_false (fun h => h.2.2.2.2.2 rfl)
              go_wp2
              go_ret
              exact ⟨rfl, F2.out⟩
            · obtain rfl : b = true := by rw [HB.out]; simp [h1, h2, h3, h6]
              have hne : (z != 0) = true := by simpa using h6
              go_wp2
              go_ret
              exact ⟨rfl, F2.out⟩
          · have hne : (k2 == 0) = false := by simpa using h5
            obtain rfl : b = false := by rw [HB.out]; exact decide_eq_false (fun h => h5 h.2.2.2.2.1)
            go_wp2
            go_ret
            exact ⟨rfl, F2.out⟩
        · have hne : (k == 0) = false := by simpa using h4
          obtain rfl : b = false := by rw [HB.out]; exact decide_eq_false (fun h => h4 h.2.2.2.1)
          go_wp2
          go_ret
          exact ⟨rfl, F1.out⟩
      · obtain rfl : b = false := by rw [HB.out]; exact decide_eq_false (fun h => h3 h.2.2.1)
        go_wp2
        go_ret
        exact ⟨rfl, Fr.refl _ _⟩
    · obtain rfl : b = false := by rw [HB.out]; exact decide_eq_false (fun h => h2 h.2.1)
      go_wp2
      go_ret
      exact ⟨rfl, Fr.refl _ _⟩
  · obtain rfl : b = false := by rw [HB.out]; exact decide_eq_false (fun h => h1 h.1)
    go_wp2
    go_ret
    exact ⟨rfl, Fr.refl _ _⟩
theorem run_cut_toE {P : Program} (t e : TypeId) (kh : IntKind) {i : TypeInfo} (ht : P.underlying t = some (.slice e)) (hi : P.info? e = some i) (size : Nat) (hsz : i.size = size) (A : Option Addr) (n c m : Nat) (hA : A = none → c = 0) (h2 : m ≤ c) :
    ∀ W : World, (Instr.slice t (.slice A n c) none (some (.int kh (m : Nat))) none).run P W = .ok (.slice A m c) W := Lens.run_cut_to t e kh ht hi size hsz A n c m hA h2
set_option maxHeartbeats 4000000 in
theorem cut_any (w : World) (A : Option Addr) (n c : Nat) (l : List Int) (p : Option Nat) (hX : SlArg w A n c (i64s l) p) (least : Nat) (hl : least ≤ 1000) (k : Nat) (hk : k = cutN l least n) :
    Calls Try.prog 70 #[.slice A n c, .int .i64 (least : Nat)] w fun e w' => e = .returned (.slice A k c) ∧ w = w' := by
  obtain ⟨j0, hj0, hj1, hj2, hj3⟩ := info_parts infoI64
  have hn : l.length = n := by have := hX.len; simpa [i64s] using this
  have HX := Hd.mk hX
  have HK := Hd.mk hk
  have hn2 := hX.le
  have hn3 := hX.max
  have HA := Hd.mk hX.nil
  unfold maxLen at hn3
  clear hX hk
  go_enter Try.func70, Try.ntmps70
  go_wp2
  go_loopg [0] n (fun kq av wr => ∃ j : Nat, av = .slice A j c ∧ j = kq ∧ j ≤ n ∧ Hd (cutN l least j = k) ∧ w = wr)
  case atStart => exact ⟨n, rfl, rfl, Nat.le_refl _, ⟨HK.out.symm⟩, rfl⟩
  case round =>
    obtain ⟨j, rfl, rfl, hj, HC, rfl⟩ := hrel
    by_cases h1 : least < j
    · obtain ⟨i, rfl⟩ : ∃ i, j = i + 1 := ⟨j - 1, by omega⟩
      obtain ⟨bx, ox, rfl, _, _⟩ := HX.out.sl (by rw [i64s_length]; omega)
      have k0 := i64_at HX.out.sl (i := i) (by omega) rfl
      obtain ⟨z, hz⟩ : ∃ z, z = l.getD i 0 := ⟨_, rfl⟩
      have HC2 : Hd ((if least < i + 1 ∧ z = 0 then cutN l least i else i + 1) = k) := ⟨by have := HC.out; rw [cutN, ← hz] at this; exact this⟩
      rw [← hz] at k0
      clear hz
      by_cases h2 : z = 0
      · subst h2
        have HC3 : Hd (cutN l least i = k) := ⟨by have := HC2.out; rwa [if_pos ⟨h1, rfl⟩] at this⟩
        have hs := run_cut_toE (P := Try.prog) 22 3 .i64 Try.underlying22 hj0 1 hj2 (some ⟨bx, ox, none⟩) (i + 1) c i (by intro h; cases h) (by omega)
        clear HC HC2
        go_wp2
        go_roundg i
        case measure => omega
        case rel => exact ⟨i, rfl, rfl, by omega, HC3, rfl⟩
      · have hne : (z == 0) = false := by simpa using h2
        obtain rfl : k = i + 1 := by have := HC2.out; rw [if_neg (fun h => h2 h.2)] at this; exact this.symm
        go_wp2
        go_ret
        exact ⟨rfl, rfl⟩
    · obtain rfl : k = j := by
        have := HC.out
        cases j with
        | zero => simpa [cutN] using this.symm
        | succ i => rw [cutN, if_neg (fun h => h1 h.1)] at this; exact this.symm
      go_wp2
      go_ret
      exact ⟨rfl, rfl⟩
end Go.Proofs.Ytofajcifjmhomaa.Head
