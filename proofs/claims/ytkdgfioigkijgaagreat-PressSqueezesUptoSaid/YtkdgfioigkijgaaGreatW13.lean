import Derived.Test.YtkdgfioigkijgaaGreatW01
import Derived.Test.YtkdgfioigkijgaaGreatW02
import Derived.Test.YtkdgfioigkijgaaGreatW03
import Derived.Test.YtkdgfioigkijgaaGreatW04
import Derived.Test.YtkdgfioigkijgaaGreatW05
import Derived.Test.YtkdgfioigkijgaaGreatW06
import Derived.Test.YtkdgfioigkijgaaGreatW08
import Derived.Test.YtkdgfioigkijgaaGreatW09
import Derived.Test.YtkdgfioigkijgaaGreatW10
import Derived.Test.YtkdgfioigkijgaaGreatW11
import Derived.Test.YtkdgfioigkijgaaGreatW12
import Derived.Deep.CutRange
import Derived.Deep.Light
import Derived.Deep.RegionHeld3
set_option linter.unusedVariables false
set_option linter.unusedSimpArgs false
set_option maxRecDepth 100000
namespace Go.Proofs.YtkdgfioigkijgaaGreat.Head
open Go.RowKit Go.Proofs.YtkdgfioigkijgaaGreat.Lib Go.Proofs.YtkdgfioigkijgaaGreat.Ints Go.Proofs.YtkdgfioigkijgaaGreat.Runs
theorem quiet_left {P : Program} {f : FuncId} {args : Array Value} {w : World} {n : Nat} {v : Value}
    (h : Calls P f args (w.drewN n) fun e w' => e = .returned v ∧ w.drewN n = w') : Calls P f args (w.drewN n) fun e w'' => e = .returned v ∧ ∃ m, w'' = w.drewN m :=
  h.mono fun _ _ ⟨he, hm⟩ => ⟨he, n, hm.symm⟩
def leastN (s : Int) : Int := if s < 16 then 1 else if s = 16 then 3 else if s = 17 then 3 else 11
def mostN (s : Int) : Int := if s < 16 then 1 else if s = 16 then 6 else if s = 17 then 10 else 138
theorem leastN_pos (s : Int) : 1 ≤ leastN s := by unfold leastN; split <;> (try split) <;> (try split) <;> omega
theorem mostN_le (s : Int) : mostN s ≤ 138 := by unfold mostN; split <;> (try split) <;> (try split) <;> omega
def okRun (out : List Int) (s k : Int) : Prop := 0 ≤ s ∧ s ≤ 18 ∧ leastN s ≤ k ∧ k ≤ mostN s ∧ ¬ (s = 16 ∧ out.length = 0) ∧ (out.length : Int) + k ≤ 320
instance (out : List Int) (s k : Int) : Decidable (okRun out s k) := by unfold okRun; exact inferInstance
theorem kinds_low (w : World) (s : Int) (h : s < 16) : Calls Tryz.prog 178 #[.int .i64 s] w fun e w' => e = .returned (.agg #[.int .i64 0, .int .i64 1, .int .i64 1]) ∧ Fr w w' [] := by
  go_enter Tryz.func178, Tryz.ntmps178
  go_wp2
  exact bodyPost_ret (v := .agg #[.int .i64 0, .int .i64 1, .int .i64 1]) (by simp [results, Tryz.results178, go_sem]) rfl ⟨rfl, ((Fr.refl _ _).alloc _).alloc _⟩
theorem least_any (w : World) (s : Int) (h1 : s ≤ 18) : Calls Tryz.prog 95 #[.int .i64 s] w fun e w' => e = .returned (.int .i64 (leastN s)) ∧ w = w' := by
  have hc : s < 16 ∨ s = 16 ∨ s = 17 ∨ s = 18 := by omega
  obtain ⟨L, hL⟩ : ∃ L, L = leastN s := ⟨_, rfl⟩
  rw [← hL]
  rcases hc with h | rfl | rfl | rfl
  · have e1 : (s == 16) = false := by simp; omega
    have e2 : (s == 17) = false := by simp; omega
    have e3 : (s == 18) = false := by simp; omega
    have : L = 1 := by rw [hL]; unfold leastN; rw [if_pos h]
    subst this
    clear hL
    go_enter Tryz.func95, Tryz.ntmps95
    go_wp2
    go_ret
    exact ⟨rfl, rfl⟩
  · obtain rfl : L = 3 := hL.trans (by decide)
    clear hL
    go_enter Tryz.func95, Tryz.ntmps95
    go_wp2
    go_ret
    exact ⟨rfl, rfl⟩
  · obtain rfl : L = 3 := hL.trans (by decide)
    clear hL
    go_enter Tryz.func95, Tryz.ntmps95
    go_wp2
    go_ret
    exact ⟨rfl, rfl⟩
  · obtain rfl : L = 11 := hL.trans (by decide)
    clear hL
    go_enter Tryz.func95, Tryz.ntmps95
    go_wp2
    go_ret
    exact ⟨rfl, rfl⟩
structure RowAt (w : World) (g : Nat) (A : Option Addr) (n c : Nat) (xs : List Int) : Prop where
  blk : w.heap[g]? = some (.cells #[.slice A n c, .int .i64 320] 296 (0, 0))
  own : w.ownsRow 0 3 1 (.slice A n c) n (i64s xs)
  len : xs.length = n
theorem RowAt.ne {w : World} {g : Nat} {A : Option Addr} {n c : Nat} {xs : List Int} (h : RowAt w g A n c xs) : (Value.slice A n c).ownBlock ≠ some g := own_ne h.own h.blk (by decide)
theorem RowAt.frame {w w' : World} {g : Nat} {A : Option Addr} {n c : Nat} {xs : List Int} (h : RowAt w g A n c xs) (hf : Fr w w' []) : RowAt w' g A n c xs := ⟨hf.blk h.blk (by simp), own_frame h.own hf (by simp), h.len⟩
theorem aft_alloc {w : World} {o : Obj} {q q' : Option Nat} (h : Aft (w.alloc o) q q') : Aft w q q' := by
  rcases h with h | ⟨z, h, hz⟩
  · exact .inl h
  · exact .inr ⟨z, h, by simp at hz; omega⟩
end Go.Proofs.YtkdgfioigkijgaaGreat.Head
set_option linter.unusedVariables false
set_option linter.unusedSimpArgs false
set_option maxRecDepth 100000
namespace Go.Proofs.YtkdgfioigkijgaaGreat.Head
open Go.RowKit Go.Proofs.YtkdgfioigkijgaaGreat.Lib Go.Proofs.YtkdgfioigkijgaaGreat.Ints Go.Proofs.YtkdgfioigkijgaaGreat.Runs
def cutN (l : List Int) (least : Nat) : Nat → Nat
  | 0 => 0
  | n + 1 => if least < n + 1 ∧ l.getD n 0 = 0 then cutN l least n else n + 1
def cutL (l : List Int) (least : Nat) : List Int := l.take (cutN l least l.length)
theorem cutN_le (l : List Int) (least : Nat) : ∀ n, cutN l least n ≤ n
  | 0 => Nat.le_refl 0
  | n + 1 => by
    rw [cutN]
    split
    · have := cutN_le l least n; omega
    · exact Nat.le_refl _
theorem cutN_ge (l : List Int) (least : Nat) : ∀ n, least ≤ n → least ≤ cutN l least n
  | 0, h => by simpa [cutN] using h
  | n + 1, h => by
    rw [cutN]
    split
    · rename_i h1
      exact cutN_ge l least n (by omega)
    · exact h
theorem cutL_len (l : List Int) (least : Nat) : (cutL l least).length = cutN l least l.length := by
  have := cutN_le l least l.length
  rw [cutL, List.length_take]
  omega
def distL (dist : List Int) : List Int := if (cutL dist 1).length = 0 then [0] else cutL dist 1
def allL (lit dist : List Int) : List Int := cutL lit 257 ++ distL dist
def okH (lit dist : List Int) : Bool := decide (257 ≤ lit.length ∧ lit.length ≤ 286 ∧ dist.length ≤ 30 ∧ Code.check lit = 0 ∧ Code.check dist = 0 ∧ lit.getD 256 0 ≠ 0)
def freqF (rs : List (Int × Int)) (i : Nat) : Nat := rs.countP fun r => decide (r.1 = (i : Int))
def freqOf (rs : List (Int × Int)) : List Int := (List.range 19).map fun i => (freqF rs i : Int)
def hlens (rs : List (Int × Int)) : List Int := (Lens.lensN 7 (freqOf rs)).1
def ord : List Nat := [16, 17, 18, 0, 8, 7, 9, 6, 10, 5, 11, 4, 12, 3, 13, 2, 14, 1, 15]
def toldN (l : List Int) : Nat → Nat
  | 0 => 4
  | j + 1 => if 0 < l.getD (ord.getD j 0) 0 then max (toldN l j) (j + 1) else toldN l j
theorem toldN_ge (l : List Int) : ∀ j, 4 ≤ toldN l j
  | 0 => Nat.le_refl 4
  | j + 1 => by
    rw [toldN]
    have := toldN_ge l j
    split <;> omega
theorem toldN_le (l : List Int) : ∀ j, toldN l j ≤ max 4 j
  | 0 => Nat.le_refl 4
  | j + 1 => by
    rw [toldN]
    have := toldN_le l j
    split <;> omega
def kbits (s : Int) : Int := if s < 16 then 0 else if s = 16 then 2 else if s = 17 then 3 else 7
def RunB (r : Int × Int) : Prop := 0 ≤ r.1 ∧ r.1 ≤ 18 ∧ leastN r.1 ≤ r.2 ∧ r.2 ≤ mostN r.1 ∧ r.2 - leastN r.1 < 2 ^ (kbits r.1).toNat
theorem runB_of (s c L M B : Int) (h0 : 0 ≤ s) (h1 : s ≤ 18) (hL : leastN s = L) (hM : mostN s = M) (hB : (2 : Int) ^ (kbits s).toNat = B) (h2 : L ≤ c) (h3 : c ≤ M) (h4 : c - L < B) : RunB (s, c) :=
  ⟨h0, h1, by simp only [hL]; exact h2, by simp only [hM]; exact h3, by simp only [hL, hB]; exact h4⟩
theorem sixes_run : ∀ (f k : Nat), (∀ r ∈ sixes f k, RunB r) ∧ (sixes f k).length ≤ sixed f k
  | 0, k => ⟨fun r h => by simp [sixes] at h, by simp [sixes]⟩
  | f + 1, k => by
    rw [sixes, sixed]
    by_cases h' : ¬ k < 3
    · have h : 3 ≤ k := by omega
      rw [if_neg h', if_neg h']
      obtain ⟨h1, h2⟩ := sixes_run f (k - min k 6)
      refine ⟨fun r hr => ?_, by simp only [List.length_cons]; omega⟩
      rcases List.mem_cons.1 hr with e | hr
      · subst e
        exact runB_of 16 _ 3 6 4 (by decide) (by decide) (by decide) (by decide) (by decide) (by omega) (by omega) (by omega)
      · exact h1 r hr
    · have h : k < 3 := by omega
      rw [if_pos h, if_pos h]
      exact ⟨fun r h => absurd h (by simp), Nat.zero_le _⟩
theorem row_run {v : Int} {k : Nat} (h0 : 0 ≤ v) (h1 : v ≤ 15) (hk : 1 ≤ k) : (∀ r ∈ rowOf v k, RunB r) ∧ (rowOf v k).length ≤ Runs.rowLen v k := by
  unfold rowOf Runs.rowLen
  by_cases hv : v = 0
  · subst hv
    rw [if_pos rfl, if_pos rfl]
    by_cases h11 : 11 ≤ k
    · rw [if_pos h11, if_pos h11]
      refine ⟨fun r hr => ?_, by simp only [List.length_cons, List.length_nil]; omega⟩
      rw [List.mem_singleton] at hr
      subst hr
      exact runB_of 18 _ 11 138 128 (by decide) (by decide) (by decide) (by decide) (by decide) (by omega) (by omega) (by omega)
    · rw [if_neg h11, if_neg h11]
      by_cases h3 : 3 ≤ k
      · rw [if_pos h3, if_pos h3]
        refine ⟨fun r hr => ?_, by simp only [List.length_cons, List.length_nil]; omega⟩
        rw [List.mem_singleton] at hr
        subst hr
        exact runB_of 17 _ 3 10 8 (by decide) (by decide) (by decide) (by decide) (by decide) (by omega) (by omega) (by omega)
      · rw [if_neg h3, if_neg h3]
        refine ⟨fun r hr => ?_, by simp⟩
        rw [List.mem_singleton] at hr
        subst hr
        exact runB_of 0 1 1 1 1 (by decide) (by decide) (by decide) (by decide) (by decide) (by decide) (by decide) (by decide)
  · rw [if_neg hv, if_neg hv]
    obtain ⟨h2, h3⟩ := sixes_run (k - 1) (k - 1)
    refine ⟨fun r hr => ?_, by simp only [List.length_cons]; omega⟩
    rcases List.mem_cons.1 hr with e | hr
    · subst e
      have e1 : leastN v = 1 := by unfold leastN; rw [if_pos (by omega)]
      have e2 : mostN v = 1 := by unfold mostN; rw [if_pos (by omega)]
      have e3 : kbits v = 0 := by unfold kbits; rw [if_pos (by omega)]
      exact runB_of v 1 1 1 1 h0 (by omega) e1 e2 (by rw [e3]; rfl) (by decide) (by decide) (by decide)
    · exact h2 r hr
theorem runsF_run : ∀ (f : Nat) (l : List Int), (∀ x ∈ l, 0 ≤ x ∧ x ≤ 15) → (∀ r ∈ runsF f l, RunB r) ∧ (runsF f l).length ≤ l.length
  | 0, l, _ => by cases l <;> exact ⟨fun r h => by simp [runsF] at h, by simp [runsF]⟩
  | f + 1, [], _ => ⟨fun r h => by simp [runsF] at h, by simp [runsF]⟩
  | f + 1, v :: t, h => by
    rw [runsF]
    have hv := h v (by simp)
    have hk : 1 ≤ lead v t + 1 := by omega
    obtain ⟨h1, h2⟩ := row_run hv.1 hv.2 hk
    obtain ⟨h3, h4⟩ := runsF_run f ((v :: t).drop (Runs.rowLen v (lead v t + 1))) (fun x hx => h x (List.mem_of_mem_drop hx))
    refine ⟨fun r hr => ?_, ?_⟩
    · rcases List.mem_append.1 hr with e | e
      · exact h1 r e
      · exact h3 r e
    · have := rowLen_le v hk
      have := lead_le v t
      rw [List.length_append]
      rw [List.length_drop] at h4
      simp only [List.length_cons] at h4 ⊢
      omega
theorem runs_run {l : List Int} (h : ∀ x ∈ l, 0 ≤ x ∧ x ≤ 15) : (∀ r ∈ runs l, RunB r) ∧ (runs l).length ≤ l.length := runsF_run _ l h
end Go.Proofs.YtkdgfioigkijgaaGreat.Head
set_option linter.unusedVariables false
set_option linter.unusedSimpArgs false
set_option maxRecDepth 100000
namespace Go.Proofs.YtkdgfioigkijgaaGreat.Head
open Go.RowKit Go.Proofs.YtkdgfioigkijgaaGreat.Lib Go.Proofs.YtkdgfioigkijgaaGreat.Ints Go.Proofs.YtkdgfioigkijgaaGreat.Runs
theorem i64_at {w : World} {A : Option Addr} {l : List Int} {q : Option Nat} (h : Sl w A (i64s l) q) {i : Nat} (hi : i < l.length) {b off : Nat} (hA : A = some ⟨b, off, none⟩) : w.cell? ⟨b, off + i, none⟩ = some (.int .i64 (l.getD i 0)) := by
  obtain ⟨b', off', h1, _, hc⟩ := h (by rw [i64s_length]; omega)
  rw [hA] at h1
  cases h1
  rw [hc i (by rw [i64s_length]; omega), i64s_get, List.getD_eq_getElem?_getD, List.getElem?_eq_getElem hi]
  rfl
set_option maxHeartbeats 4000000 in
theorem can_any (w : World) (A B : Option Addr) (n c m d : Nat) (lit dist : List Int) (p q : Option Nat) (hX : SlArg w A n c (i64s lit) p) (hY : SlArg w B m d (i64s dist) q) (b : Bool) (hb : b = okH lit dist) :
    Calls Tryz.prog 192 #[.slice A n c, .slice B m d] w fun e w' => e = .returned (.bool b) ∧ Fr w w' [] := by
  have hn : lit.length = n := by have := hX.len; simpa [i64s] using this
  have hm : dist.length = m := by have := hY.len; simpa [i64s] using this
  have HX := Hd.mk hX
  have HY := Hd.mk hY
  have HB : Hd (b = decide (257 ≤ n ∧ n ≤ 286 ∧ m ≤ 30 ∧ Code.check lit = 0 ∧ Code.check dist = 0 ∧ lit.getD 256 0 ≠ 0)) := ⟨by rw [hb, ← hn, ← hm]; rfl⟩
  have hn2 := hX.le
  have hn3 := hX.max
  have hm2 := hY.le
  have hm3 := hY.max
  unfold maxLen at hn3 hm3
  clear hX hY hb
  go_enter Tryz.func192, Tryz.ntmps192
  by_cases h1 : 257 ≤ n
  · by_cases h2 : n ≤ 286
    · by_cases h3 : m ≤ 30
      · go_wp2_with (fail)
        refine (Code.check_any w A n c lit p HX.out _ rfl).mono ?_
        rintro e w1 ⟨rfl, h⟩
        have F1 := Hd.mk h
        clear h
        obtain ⟨k, hk⟩ : ∃ k, k = Code.check lit := ⟨_, rfl⟩
        rw [← hk] at HB ⊢
        have HK := Hd.mk hk
        clear hk
        by_cases h4 : k = 0
        · subst h4
          go_wp2_with (fail)
          refine (Code.check_any w1 B m d dist q (HY.out.frame F1.out (by simp)) _ rfl).mono ?_
          rintro e w2 ⟨rfl, h⟩
          have F2 := Hd.mk (F1.out.trans h (by simp))
          clear h
          obtain ⟨k2, hk⟩ : ∃ k, k = Code.check dist := ⟨_, rfl⟩
          rw [← hk] at HB ⊢
          clear hk
          by_cases h5 : k2 = 0
          · subst h5
            obtain ⟨bx, ox, rfl, _, _⟩ := HX.out.sl (by rw [i64s_length]; omega)
            have k0 := i64_at (HX.out.sl.frame F2.out (by simp)) (i := 256) (by omega) rfl
            obtain ⟨z, hz⟩ : ∃ z, z = lit.getD 256 0 := ⟨_, rfl⟩
            rw [← hz] at HB k0
            clear hz
            by_cases h6 : z = 0
            · subst h6
              obtain rfl : b = false := by rw [HB.out]; exact decide_eq_false (fun h => h.2.2.2.2.2 rfl)
              go_wp2
              go_ret
              exact ⟨rfl, F2.out⟩
            · obtain rfl : b = true := by rw [HB.out]; simp [h1, h2, h3, h6]
              have hne : (z != 0) = true := by simpa using h6
              go_wp2
              go_ret
              exact ⟨rfl, F2.out⟩
          · have hne : (k2 == 0) = false := by simpa using h5
            obtain rfl : b = false := by rw [HB.out]; exact decide_eq_false (fun h => h5 h.2.2.2.2.1)
            go_wp2
            go_ret
            exact ⟨rfl, F2.out⟩
        · have hne : (k == 0) = false := by simpa using h4
          obtain rfl : b = false := by rw [HB.out]; exact decide_eq_false (fun h => h4 h.2.2.2.1)
          go_wp2
          go_ret
          exact ⟨rfl, F1.out⟩
      · obtain rfl : b = false := by rw [HB.out]; exact decide_eq_false (fun h => h3 h.2.2.1)
        go_wp2
        go_ret
        exact ⟨rfl, Fr.refl _ _⟩
    · obtain rfl : b = false := by rw [HB.out]; exact decide_eq_false (fun h => h2 h.2.1)
      go_wp2
      go_ret
      exact ⟨rfl, Fr.refl _ _⟩
  · obtain rfl : b = false := by rw [HB.out]; exact decide_eq_false (fun h => h1 h.1)
    go_wp2
    go_ret
    exact ⟨rfl, Fr.refl _ _⟩
theorem run_cut_toE {P : Program} (t e : TypeId) (kh : IntKind) {i : TypeInfo} (ht : P.underlying t = some (.slice e)) (hi : P.info? e = some i) (size : Nat) (hsz : i.size = size) (A : Option Addr) (n c m : Nat) (hA : A = none → c = 0) (h2 : m ≤ c) :
    ∀ W : World, (Instr.slice t (.slice A n c) none (some (.int kh (m : Nat))) none).run P W = .ok (.slice A m c) W := Lens.run_cut_to t e kh ht hi size hsz A n c m hA h2
set_option maxHeartbeats 4000000 in
theorem cut_any (w : World) (A : Option Addr) (n c : Nat) (l : List Int) (p : Option Nat) (hX : SlArg w A n c (i64s l) p) (least : Nat) (hl : least ≤ 1000) (k : Nat) (hk : k = cutN l least n) :
    Calls Tryz.prog 193 #[.slice A n c, .int .i64 (least : Nat)] w fun e w' => e = .returned (.slice A k c) ∧ w = w' := by
  obtain ⟨j0, hj0, hj1, hj2, hj3⟩ := info_parts infoI64
  have hn : l.length = n := by have := hX.len; simpa [i64s] using this
  have HX := Hd.mk hX
  have HK := Hd.mk hk
  have hn2 := hX.le
  have hn3 := hX.max
  have HA := Hd.mk hX.nil
  unfold maxLen at hn3
  clear hX hk
  go_enter Tryz.func193, Tryz.ntmps193
  go_wp2
  go_loopg [0] n (fun kq av wr => ∃ j : Nat, av = .slice A j c ∧ j = kq ∧ j ≤ n ∧ Hd (cutN l least j = k) ∧ w = wr)
  case atStart => exact ⟨n, rfl, rfl, Nat.le_refl _, ⟨HK.out.symm⟩, rfl⟩
  case round =>
    obtain ⟨j, rfl, rfl, hj, HC, rfl⟩ := hrel
    by_cases h1 : least < j
    · obtain ⟨i, rfl⟩ : ∃ i, j = i + 1 := ⟨j - 1, by omega⟩
      obtain ⟨bx, ox, rfl, _, _⟩ := HX.out.sl (by rw [i64s_length]; omega)
      have k0 := i64_at HX.out.sl (i := i) (by omega) rfl
      obtain ⟨z, hz⟩ : ∃ z, z = l.getD i 0 := ⟨_, rfl⟩
      have HC2 : Hd ((if least < i + 1 ∧ z = 0 then cutN l least i else i + 1) = k) := ⟨by have := HC.out; rw [cutN, ← hz] at this; exact this⟩
      rw [← hz] at k0
      clear hz
      by_cases h2 : z = 0
      · subst h2
        have HC3 : Hd (cutN l least i = k) := ⟨by have := HC2.out; rwa [if_pos ⟨h1, rfl⟩] at this⟩
        have hs := run_cut_toE (P := Tryz.prog) 79 3 .i64 Tryz.underlying79 hj0 1 hj2 (some ⟨bx, ox, none⟩) (i + 1) c i (by intro h; cases h) (by omega)
        clear HC HC2
        go_wp2
        go_roundg i
        case measure => omega
        case rel => exact ⟨i, rfl, rfl, by omega, HC3, rfl⟩
      · have hne : (z == 0) = false := by simpa using h2
        obtain rfl : k = i + 1 := by have := HC2.out; rw [if_neg (fun h => h2 h.2)] at this; exact this.symm
        go_wp2
        go_ret
        exact ⟨rfl, rfl⟩
    · obtain rfl : k = j := by
        have := HC.out
        cases j with
        | zero => simpa [cutN] using this.symm
        | succ i => rw [cutN, if_neg (fun h => h1 h.1)] at this; exact this.symm
      go_wp2
      go_ret
      exact ⟨rfl, rfl⟩
end Go.Proofs.YtkdgfioigkijgaaGreat.Head
set_option linter.unusedVariables false
set_option linter.unusedSimpArgs false
set_option maxRecDepth 100000
namespace Go.Proofs.YtkdgfioigkijgaaGreat.Head
open Go.RowKit Go.Proofs.YtkdgfioigkijgaaGreat.Lib Go.Proofs.YtkdgfioigkijgaaGreat.Ints Go.Proofs.YtkdgfioigkijgaaGreat.Runs
def ordC : Array Value := (i64s (ord.map fun (i : Nat) => (i : Int))).toArray
theorem ordInfo : (Tryz.prog.info? 294).map (·.size) = some ordC.size := by kernel_rfl
set_option maxHeartbeats 2000000 in
theorem order_any (w : World) : Calls Tryz.prog 179 #[] w fun e w' => e = .returned (.agg ordC) ∧ Fr w w' [] := by
  go_enter Tryz.func179, Tryz.ntmps179
  go_upto_region 1 with (fail)
  go_wp2_with (refine wpList_store_row rfl 294 _ _ rfl w.heap.size ordC rfl rfl 294 _ (by exact blk_new w _) (by kernel_rfl) (by kernel_rfl) (by kernel_rfl) ?_)
  refine bodyPost_ret (results_cell_row rfl _ _ w.heap.size 294 _ _ _ rfl (setRow_heap _ _ _ _ _ _ (blk_new w _)) Tryz.underlying294 rfl ordInfo) rfl ?_
  exact ⟨rfl, Code.Fr.setRow ((Fr.refl w []).alloc _) _ (.inr (Nat.le_refl _))⟩
theorem ordIdx : ∀ i : Nat, i < 19 → ∀ W : World, (Instr.index 294 (.agg ordC) (.int .i64 (i : Nat))).run Tryz.prog W = .ok (.int .i64 ((ord.getD i 0 : Nat) : Int)) W
  | 0, _, W => by kernel_rfl
  | 1, _, W => by kernel_rfl
  | 2, _, W => by kernel_rfl
  | 3, _, W => by kernel_rfl
  | 4, _, W => by kernel_rfl
  | 5, _, W => by kernel_rfl
  | 6, _, W => by kernel_rfl
  | 7, _, W => by kernel_rfl
  | 8, _, W => by kernel_rfl
  | 9, _, W => by kernel_rfl
  | 10, _, W => by kernel_rfl
  | 11, _, W => by kernel_rfl
  | 12, _, W => by kernel_rfl
  | 13, _, W => by kernel_rfl
  | 14, _, W => by kernel_rfl
  | 15, _, W => by kernel_rfl
  | 16, _, W => by kernel_rfl
  | 17, _, W => by kernel_rfl
  | 18, _, W => by kernel_rfl
  | k + 19, h, _ => absurd h (by omega)
theorem ord_lt : ∀ i, i < 19 → ord.getD i 0 < 19 := by decide
theorem freqOf_len (rs : List (Int × Int)) : (freqOf rs).length = 19 := by simp [freqOf]
theorem freqF_snoc (rs : List (Int × Int)) (r : Int × Int) (i : Nat) : freqF (rs ++ [r]) i = freqF rs i + if r.1 = (i : Int) then 1 else 0 := by
  unfold freqF
  rw [List.countP_append, List.countP_cons, List.countP_nil]
  by_cases h : r.1 = (i : Int)
  · simp [h]
  · simp [h]
theorem freqF_le (rs : List (Int × Int)) (i : Nat) : freqF rs i ≤ rs.length := List.countP_le_length
theorem freq_get (rs : List (Int × Int)) {s : Nat} (h : s < 19) : (i64s (freqOf rs))[s]? = some (.int .i64 (freqF rs s : Nat)) := by
  rw [i64s_get]; simp [freqOf, h]
theorem freq_set (rs : List (Int × Int)) (r : Int × Int) {s : Nat} (h : s < 19) (hr : r.1 = (s : Int)) : (i64s (freqOf rs)).toArray.setIfInBounds s (.int .i64 ((freqF rs s : Nat) + 1 : Int)) = (i64s (freqOf (rs ++ [r]))).toArray := by
  apply Array.ext_getElem?
  intro k
  rw [Array.getElem?_setIfInBounds]
  simp only [List.getElem?_toArray]
  by_cases hk : k < 19
  · rw [freq_get _ hk]
    by_cases e : s = k
    · subst e
      rw [if_pos rfl, if_pos (by simp [i64s, freqOf]; exact h), freq_get _ h, freqF_snoc, if_pos hr]
      rfl
    · rw [if_neg e, freq_get _ hk, freqF_snoc, if_neg (by rw [hr]; omega), Nat.add_zero]
  · rw [if_neg (by omega)]
    rw [List.getElem?_eq_none (by simp [i64s, freqOf]; omega), List.getElem?_eq_none (by simp [i64s, freqOf]; omega)]
theorem freq_zero : (#[Value.int .i64 0, .int .i64 0, .int .i64 0, .int .i64 0, .int .i64 0, .int .i64 0, .int .i64 0, .int .i64 0, .int .i64 0, .int .i64 0, .int .i64 0, .int .i64 0, .int .i64 0, .int .i64 0, .int .i64 0, .int .i64 0, .int .i64 0, .int .i64 0, .int .i64 0] : Array Value) = (i64s (freqOf [])).toArray := by kernel_rfl
theorem freq_fine {rs : List (Int × Int)} (h : rs.length ≤ 1000) : Lens.cn (freqOf rs) = 0 := by
  unfold Lens.cn
  rw [if_neg (by rw [freqOf_len]; decide), Lens.out_false, if_neg (by decide)]
  intro i hi
  have h1 := freqF_le rs i
  simp only [freqOf, List.getElem_map, List.getElem_range]
  omega
theorem hlens_eq {rs : List (Int × Int)} (h : rs.length ≤ 1000) : Lens.lensN 7 (freqOf rs) = ((List.range 19).map fun s => (Lens.lenOf 7 (freqOf rs) s : Int), 0) ∧ hlens rs = (List.range 19).map fun s => (Lens.lenOf 7 (freqOf rs) s : Int) := by
  have hl : (Lens.lvs (freqOf rs)).length ≤ 19 := by have := Lens.lvs_le (freqOf rs); rw [freqOf_len] at this; exact this
  have e : Lens.lensN 7 (freqOf rs) = ((List.range 19).map fun s => (Lens.lenOf 7 (freqOf rs) s : Int), 0) := by
    unfold Lens.lensN
    rw [if_neg (by decide), if_neg (by rw [freq_fine h]; decide), if_neg (by have : 2 ^ (7 : Int).toNat = 128 := rfl; omega), freqOf_len]
    rfl
  exact ⟨e, by unfold hlens; rw [e]⟩
theorem hlens_len {rs : List (Int × Int)} (h : rs.length ≤ 1000) : (hlens rs).length = 19 := by rw [(hlens_eq h).2]; simp
theorem hlens_check {rs : List (Int × Int)} (h : rs.length ≤ 1000) : Code.check (hlens rs) = 0 := by
  rw [(hlens_eq h).2]
  have := Lens.lens_check (fs := freqOf rs) (limit := 7) (by decide) (by decide) (by have := Lens.lvs_le (freqOf rs); rw [freqOf_len] at this; have e : 2 ^ 7 = 128 := rfl; omega) (by rw [freqOf_len]; decide)
  rwa [freqOf_len] at this
theorem hlens_le {rs : List (Int × Int)} (h : rs.length ≤ 1000) (s : Nat) : 0 ≤ (hlens rs).getD s 0 ∧ (hlens rs).getD s 0 ≤ 7 := by
  rw [(hlens_eq h).2, List.getD_eq_getElem?_getD]
  by_cases hs : s < 19
  · simp only [List.getElem?_map, List.getElem?_range hs, Option.map_some, Option.getD_some]
    have := Lens.lenOf_le (fs := freqOf rs) (limit := 7) (by decide) (by have := Lens.lvs_le (freqOf rs); rw [freqOf_len] at this; have e : 2 ^ 7 = 128 := rfl; omega) s
    omega
  · rw [List.getElem?_eq_none (by simp; omega)]; simp
theorem okH_parts {lit dist : List Int} (h : okH lit dist = true) : 257 ≤ lit.length ∧ lit.length ≤ 286 ∧ dist.length ≤ 30 ∧ Code.check lit = 0 ∧ Code.check dist = 0 ∧ lit.getD 256 0 ≠ 0 := of_decide_eq_true h
theorem check_vals {l : List Int} (h : Code.check l = 0) : ∀ x ∈ l, 0 ≤ x ∧ x ≤ 15 := (Code.bad_false (Code.check_zero h).1).2
theorem distL_len (dist : List Int) (h : dist.length ≤ 30) : 1 ≤ (distL dist).length ∧ (distL dist).length ≤ 30 := by
  unfold distL
  have := cutN_le dist 1 dist.length
  split
  · simp
  · rename_i h1
    rw [cutL_len] at h1 ⊢
    omega
theorem allL_ok {lit dist : List Int} (h : okH lit dist = true) : (∀ x ∈ allL lit dist, 0 ≤ x ∧ x ≤ 15) ∧ (allL lit dist).length ≤ 316 ∧ (cutL lit 257).length ≤ 286 ∧ 257 ≤ (cutL lit 257).length := by
  obtain ⟨h1, h2, h3, h4, h5, h6⟩ := okH_parts h
  have a1 := cutN_le lit 257 lit.length
  have a2 := cutN_ge lit 257 lit.length h1
  have a3 := distL_len dist h3
  refine ⟨fun x hx => ?_, ?_, ?_, ?_⟩
  · rcases List.mem_append.1 hx with e | e
    · exact check_vals h4 x (List.mem_of_mem_take e)
    · unfold distL at e
      split at e
      · rw [List.mem_singleton] at e; subst e; exact ⟨by decide, by decide⟩
      · exact check_vals h5 x (List.mem_of_mem_take e)
  · unfold allL; rw [List.length_append, cutL_len]; omega
  · rw [cutL_len]; omega
  · rw [cutL_len]; omega
theorem bad_of {l : List Int} (h1 : l.length ≤ 320) (h2 : ∀ x ∈ l, 0 ≤ x ∧ x ≤ 15) : bad l = false := by
  unfold bad
  rw [decide_eq_false (by omega), out_false (fun i hi => h2 _ (List.getElem_mem hi))]
  rfl
def hruns (lit dist : List Int) : List (Int × Int) := runs (allL lit dist)
theorem hruns_ok {lit dist : List Int} (h : okH lit dist = true) : (∀ r ∈ hruns lit dist, RunB r) ∧ (hruns lit dist).length ≤ 316 ∧ bad (allL lit dist) = false := by
  obtain ⟨h1, h2, _⟩ := allL_ok h
  obtain ⟨h3, h4⟩ := runs_run h1
  exact ⟨h3, Nat.le_trans h4 h2, bad_of (by omega) h1⟩
end Go.Proofs.YtkdgfioigkijgaaGreat.Head
set_option linter.unusedVariables false
set_option linter.unusedSimpArgs false
set_option maxRecDepth 100000
namespace Go.Proofs.YtkdgfioigkijgaaGreat.Head
open Go.RowKit Go.Proofs.YtkdgfioigkijgaaGreat.Lib Go.Proofs.YtkdgfioigkijgaaGreat.Ints Go.Proofs.YtkdgfioigkijgaaGreat.Runs
structure Plan (w0 w : World) (lit dist : List Int) (A : Option Addr) (n c : Nat) (B : Option Addr) (d : Nat) : Prop where
  runs : w.ownsRow 0 297 2 (.slice A n c) n (cells (hruns lit dist))
  lens : w.ownsRow 0 3 1 (.slice B 19 d) 19 (i64s (hlens (hruns lit dist)))
  newA : ∀ k, (Value.slice A n c).ownBlock = some k → w0.heap.size ≤ k
  newB : ∀ k, (Value.slice B 19 d).ownBlock = some k → w0.heap.size ≤ k
theorem Plan.frame {w0 w w' : World} {lit dist : List Int} {A B : Option Addr} {n c d : Nat} (h : Plan w0 w lit dist A n c B d) (hf : Fr w w' []) : Plan w0 w' lit dist A n c B d :=
  ⟨own_frame h.runs hf (by simp), own_frame h.lens hf (by simp), h.newA, h.newB⟩
def planC (lit dist : List Int) (A : Option Addr) (n c : Nat) (B : Option Addr) (d : Nat) : Array Value :=
  #[.int .i64 ((cutL lit 257).length : Nat), .int .i64 ((distL dist).length : Nat), .slice A n c, .slice B 19 d, .int .i64 (toldN (hlens (hruns lit dist)) 19 : Nat)]
def noPlan : Array Value := #[.int .i64 0, .int .i64 0, .slice none 0 0, .slice none 0 0, .int .i64 0]
def PlanPost (w : World) (lit dist : List Int) (e : Ending) (w' : World) : Prop :=
  (okH lit dist = true → ∃ A n c B d, e = .returned (.tuple #[.agg (planC lit dist A n c B d), .int .i64 0]) ∧ Plan w w' lit dist A n c B d ∧ Fr w w' []) ∧
  (okH lit dist = false → e = .returned (.tuple #[.agg noPlan, .int .i64 80]) ∧ Fr w w' [])
theorem planInfo : (Tryz.prog.info? 307).map (·.size) = some 5 := by kernel_rfl
theorem results_pt {fn : Func} {p q : Tmp} (h : fn.results = #[.cell p 307, .tmp q]) (tmps : Array Value) (w : World) (g : Nat) (cs : Array Value)
    (hp : tmps.getD p undef = .pointer (some ⟨g, 0, none⟩)) (hg : w.heap[g]? = some (.cells cs 307 (0, 0))) (hc : cs.size = 5) (v : Value) (hv : tmps.getD q undef = v) :
    (results fn tmps).run Tryz.prog w = .ok (.tuple #[.agg cs, v]) w := by
  have hp' : tmps[p]?.getD undef = .pointer (some ⟨g, 0, none⟩) := by simpa using hp
  have hv' : tmps[q]?.getD undef = v := by simpa using hv
  simp [results, h, hp', hv', asAddr, run_loadVar_row w g 307 307 cs _ _ hg Tryz.underlying307 rfl (by rw [hc]; exact planInfo)]
set_option maxHeartbeats 8000000 in
theorem newPlan_any (w : World) (A B : Option Addr) (n c m d : Nat) (lit dist : List Int) (p q : Option Nat) (hX : SlArg w A n c (i64s lit) p) (hY : SlArg w B m d (i64s dist) q) :
    Calls Tryz.prog 177 #[.slice A n c, .slice B m d] w (PlanPost w lit dist) := by
  obtain ⟨j0, hj0, hj1, hj2, hj3⟩ := info_parts infoI64
  have hn : lit.length = n := by have := hX.len; simpa [i64s] using this
  have hm : dist.length = m := by have := hY.len; simpa [i64s] using this
  have HX := Hd.mk hX
  have HY := Hd.mk hY
  clear hX hY
  obtain ⟨b, hb⟩ : ∃ b, b = okH lit dist := ⟨_, rfl⟩
  have HB := Hd.mk hb
  go_enter Tryz.func177, Tryz.ntmps177
  go_wp2_with (fail)
  have A0 := (Fr.refl w []).alloc (.cells noPlan 307)
  have K0 := Hd.mk (blk_new w (.cells noPlan 307))
  refine (can_any (w.alloc (.cells noPlan 307)) A B n c m d lit dist p q (HX.out.frame A0 (by simp)) (HY.out.frame A0 (by simp)) b hb).mono ?_
  rintro e w1 ⟨rfl, h1⟩
  have K1 := Hd.mk (h1.blk K0.out (by simp))
  have F1 := Hd.mk (A0.trans h1 (by simp))
  have hg0 : w.heap.size ≤ w.heap.size := Nat.le_refl _
  obtain ⟨g, hg⟩ : ∃ g, g = w.heap.size := ⟨_, rfl⟩
  rw [← hg] at K1 hg0 ⊢
  have hgw : w.heap.size ≤ g := by omega
  clear K0 A0 h1 hg hb hg0
  cases b with
  | false =>
    go_wp2_with (refine wpList_store_row rfl 307 _ _ rfl g noPlan rfl rfl 307 _ (by exact K1.out) (by kernel_rfl) (by kernel_rfl) (by kernel_rfl) ?_)
    refine bodyPost_ret (results_pt rfl _ _ g noPlan rfl (setRow_heap _ _ _ _ _ _ K1.out) rfl _ rfl) rfl ?_
    exact ⟨fun h => absurd h (by rw [← HB.out]; decide), fun _ => ⟨rfl, Code.Fr.setRow F1.out _ (.inr hgw)⟩⟩
  | true =>
    obtain ⟨o1, o2, o3, o4, o5, o6⟩ := okH_parts HB.out.symm
    obtain ⟨a1, a2, a3, a4⟩ := allL_ok HB.out.symm
    have HV := Hd.mk a1
    obtain ⟨r1, r2, r3⟩ := hruns_ok HB.out.symm
    have HR := Hd.mk (And.intro r1 r3)
    obtain ⟨ka, hka⟩ : ∃ k, k = cutN lit 257 n := ⟨_, rfl⟩
    obtain ⟨kb, hkb⟩ : ∃ k, k = cutN dist 1 m := ⟨_, rfl⟩
    have KA := Hd.mk hka
    have KB := Hd.mk hkb
    clear a1 o4 o5 o6 r1 r3 hka hkb
    go_wp2_with (fail)
    refine (cut_any w1 A n c lit p (HX.out.frame F1.out (by simp)) 257 (by omega) ka KA.out).mono ?_
    rintro e w2 ⟨rfl, rfl⟩
    go_wp2_with (fail)
    refine (cut_any w1 B m d dist q (HY.out.frame F1.out (by simp)) 1 (by omega) kb KB.out).mono ?_
    rintro e w2 ⟨rfl, rfl⟩
    have la : (cutL lit 257).length = ka := by rw [cutL_len, hn, KA.out]
    have lb : (cutL dist 1).length = kb := by rw [cutL_len, hm, KB.out]
    have hkan : ka ≤ n := by rw [KA.out]; exact cutN_le _ _ _
    have hkbm : kb ≤ m := by rw [KB.out]; exact cutN_le _ _ _
    have XA : Hd (Sl w1 A (i64s (cutL lit 257)) p) := ⟨by have := (HX.out.sl.frame F1.out (by simp)).take ka; unfold cutL; rw [hn, ← KA.out]; simpa [i64s, List.map_take] using this⟩
    have XB : Hd (Sl w1 B (i64s (cutL dist 1)) q) := ⟨by have := (HY.out.sl.frame F1.out (by simp)).take kb; unfold cutL; rw [hm, ← KB.out]; simpa [i64s, List.map_take] using this⟩
    have NA : Hd (A = none → n = 0 ∧ c = 0) := ⟨HX.out.nil⟩
    have NB : Hd (B = none → m = 0 ∧ d = 0) := ⟨HY.out.nil⟩
    obtain ⟨kd, hkd⟩ : ∃ k, k = (distL dist).length := ⟨_, rfl⟩
    have hkd2 := distL_len dist (by omega)
    rw [← hkd] at hkd2
    have HKD : Hd (distL dist = if kb = 0 then [0] else cutL dist 1) := ⟨by unfold distL; rw [lb]⟩
    go_upto_if 30 with (fail)
    go_cut [7] from 31 to 36 (fun s7 wc => ∃ (B' : Option Addr) (d' : Nat) (q' : Option Nat), s7 = .slice B' kd d' ∧ Hd (Sl wc B' (i64s (distL dist)) q') ∧ Hd (B' = none → kd = 0 ∧ d' = 0) ∧ Hd (Fr w1 wc []))
    case first =>
      by_cases h0 : kb = 0
      · have hz : distL dist = [0] := by rw [HKD.out, if_pos h0]
        have HZ := Hd.mk hz
        obtain rfl : kd = 1 := by rw [hkd, hz]; rfl
        have hkb0 : ((kb : Int) == 0) = true := by simp; omega
        clear hz hkd HX XA NA
        go_wp2
        go_meet
        case rel => exact ⟨_, 1, some w1.heap.size, rfl, ⟨by rw [HZ.out]; exact sl_of_blk (blk_new w1 _)⟩, ⟨fun h => by cases h⟩, ⟨(Fr.refl w1 []).alloc _⟩⟩
      · have hz : distL dist = cutL dist 1 := by rw [HKD.out, if_neg h0]
        obtain rfl : kd = kb := by rw [hkd, hz, lb]
        have HZ := Hd.mk hz
        have hkb0 : ((kd : Int) == 0) = false := by simp; omega
        clear hz hkd HX XA NA
        go_wp2
        go_meet
        case rel => exact ⟨B, d, q, rfl, ⟨by rw [HZ.out]; exact XB.out⟩, ⟨fun h => by have := NB.out h; omega⟩, ⟨Fr.refl w1 []⟩⟩
    case rest =>
      obtain ⟨B', d', q', rfl, XB2, NB2, FC⟩ := hcut
      have F2 := Hd.mk (F1.out.trans FC.out (by simp))
      have K2 := Hd.mk (FC.out.blk K1.out (by simp))
      have XA2 := Hd.mk (XA.out.frame FC.out (by simp))
      have HKL : Hd (distL dist = distL dist ∧ kd = (distL dist).length) := ⟨⟨rfl, hkd⟩⟩
      have HLA : Hd ((cutL lit 257).length = ka) := ⟨la⟩
      have HAD : Hd (allL lit dist = cutL lit 257 ++ distL dist) := ⟨rfl⟩
      have hka2 : ka ≤ 286 := by omega
      clear FC XA XB HY HKD KA KB NB K1 F1 la lb hkd a3 a4
      go_wp2_with (first
        | (at_builtin; refine wpList_append_sl rfl (.const (.slice none 0 0)) (.tmp 32) 79 rfl 3 j0 (.int .i64 0) 1 8 Tryz.underlying79 hj0 hj1 hj2 hj3 rfl (by decide) (.slice none 0 0) 0 [] rfl (own_nil _ _ _ _) A ka c _ _ rfl (by rw [i64s_length, HLA.out]; omega) XA2.out (by intro h; have := NA.out h; omega) (i64s_one _) (by unfold maxLen; omega) (by omega) ?_; intro A3 c3 w3 hown3 hgrow3 haft3; rw [Nat.zero_add] at hown3 haft3; have O3 := Hd.mk hown3; have G3 := Hd.mk hgrow3; have AF3 := Hd.mk haft3; clear hown3 hgrow3 haft3; rw [Nat.zero_add])
        | (at_builtin; refine wpList_append_sl rfl (.tmp 33) (.tmp 34) 79 rfl 3 j0 (.int .i64 0) 1 8 Tryz.underlying79 hj0 hj1 hj2 hj3 rfl (by decide) (.slice A3 ka c3) ka _ rfl O3.out B' kd d' (i64s (distL dist)) q' rfl (by rw [i64s_length, HKL.out.2]; omega) (XB2.out.frame ((Fr.refl wc []).grown G3.out (fun k hk => by simp [Value.ownBlock] at hk)) (by simp)) NB2.out (i64s_one _) (by unfold maxLen; omega) (by omega) ?_; intro A4 c4 w4 hown4 hgrow4 haft4; have O4 := Hd.mk hown4; have G4 := Hd.mk hgrow4; have AF4 := Hd.mk haft4; clear hown4 hgrow4 haft4))
      have B3 : ∀ k, (Value.slice A3 ka c3).ownBlock = some k → wc.heap.size ≤ k := fun k hk => by
        rcases AF3.out with e | ⟨j, e, hj⟩
        · rw [hk] at e; simp [Value.ownBlock] at e
        · rw [hk] at e; cases e; exact hj
      have K3 := blk_grown G3.out K2.out (by simp [Value.ownBlock])
      have K4 := Hd.mk (blk_grown G4.out K3 (own_ne O3.out K3 (by decide)).symm)
      have F4 : Hd (Fr w w4 []) := ⟨(F2.out.grown G3.out (fun k hk => by simp [Value.ownBlock] at hk)).grown G4.out (fun k hk => .inr (by have := B3 k hk; have := F2.out.size; omega))⟩
      have L4 : Hd (allL lit dist = allL lit dist ∧ ka + kd = (allL lit dist).length) := ⟨rfl, by unfold allL; rw [List.length_append, HLA.out, HKL.out.2]⟩
      have S4 : Hd (SlArg w4 A4 (ka + kd) c4 (i64s (allL lit dist)) (Value.slice A4 (ka + kd) c4).ownBlock) := ⟨by
        have h1 := O4.out
        rw [List.nil_append, ← i64s_app, ← HAD.out] at h1
        obtain ⟨A', c', e1, h2, h3, _⟩ := own_slice h1
        injection e1 with e1 _ e3
        subst e1 e3
        exact ⟨by have := h1.1; omega, h2, h3, fun hA => own_none h1 hA, sl_of_own h1, fun b hb => own_lt h1 hb⟩⟩
      have hkd3 : 1 ≤ kd ∧ kd ≤ 30 := hkd2
      clear B3 K3 K2 F2 O3 G3 AF3 O4 G4 AF4 XA2 XB2 NB2 HX NA HAD
      refine (runs_any w4 A4 (ka + kd) c4 (allL lit dist) _ L4.out.2.symm S4.out.le S4.out.sl S4.out.nil (by omega) 0 (hruns lit dist) (by rw [HR.out.2]; rfl) (by rw [HR.out.2]; rfl)).mono ?_
      rintro e w5 ⟨A5, n5, c5, rfl, h1, h2, h3⟩
      have hn5 : n5 = (hruns lit dist).length := by have := h1.1; rw [cells_len] at this; omega
      have O5 := Hd.mk h1
      have NW5 : Hd (∀ k, (Value.slice A5 n5 c5).ownBlock = some k → w.heap.size ≤ k) := ⟨fun k hk => by have := h2 k hk; have := F4.out.size; omega⟩
      have F5 := Hd.mk (F4.out.trans h3 (by simp))
      have K5 := Hd.mk (h3.blk K4.out (by simp))
      clear h1 h2 h3 S4 K4 F4 L4
      obtain ⟨rs, hrs⟩ : ∃ rs, rs = hruns lit dist := ⟨_, rfl⟩
      rw [← hrs] at O5 HR r2 hn5
      have HRS := Hd.mk hrs
      clear hrs
      go_upto_region 9 with (fail)
      rw [freq_zero]
      have Z0 := Hd.mk (blk_new w5 (.cells (i64s (freqOf [])).toArray 294))
      have A6 := (Fr.refl w5 []).alloc (.cells (i64s (freqOf [])).toArray 294)
      have O6 := Hd.mk (own_frame O5.out A6 (by simp))
      have F6 := Hd.mk (F5.out.trans A6 (by simp))
      have K6 := Hd.mk (A6.blk K5.out (by simp))
      have hgf : w.heap.size ≤ w5.heap.size := F5.out.size
      generalize w5.alloc (.cells (i64s (freqOf [])).toArray 294) = w6 at *
      generalize w5.heap.size = gf at *
      clear A6 O5 F5 K5
      have hnA : Hd (∀ k, (Value.slice A5 n5 c5).ownBlock = some k → k ≠ gf) := ⟨fun k hk => by
        obtain ⟨cs, hcs⟩ := own_type O6.out hk
        exact blk_ne hcs Z0.out (by decide)⟩
      have hgg : g ≠ gf := blk_ne K6.out Z0.out (by decide)
      go_wp2
      go_loopg [43] n5 (fun kq jv wr => ∃ j : Nat, jv = .int .i64 (j : Nat) ∧ j + kq = n5 ∧ Hd (wr.heap[gf]? = some (.cells (i64s (freqOf (rs.take j))).toArray 294 (0, 0))) ∧ Hd (wr.ownsRow 0 297 2 (.slice A5 n5 c5) n5 (cells rs)) ∧ Hd (wr.heap[g]? = some (.cells noPlan 307 (0, 0))) ∧ Hd (Fr w wr []))
      case atStart => exact ⟨0, rfl, by omega, Z0, O6, K6, F6⟩
      case round =>
        obtain ⟨j, rfl, hj, HZ, HO, HK, HF⟩ := hrel
        by_cases hjn : j < n5
        · have hjr : j < rs.length := by omega
          obtain ⟨a, o1', e1, _, hcc⟩ := Sl.row (enc := enc) (sz := 2) (fun _ => rfl) (sl_of_own2 HO.out (by omega)) hjr (by decide)
          subst e1
          obtain ⟨r, hr⟩ : ∃ r, r = rs[j] := ⟨_, rfl⟩
          rw [← hr] at hcc
          have hrb := HR.out.1 r (by rw [hr]; exact List.getElem_mem hjr)
          have c0 := hcc 0 (by decide)
          have c1 := hcc 1 (by decide)
          have HTK : Hd (rs.take (j + 1) = rs.take j ++ [r]) := ⟨by rw [List.take_succ_eq_append_getElem hjr, hr]⟩
          obtain ⟨rsym, rcnt⟩ := r
          obtain ⟨hb1, hb2, _⟩ := hrb
          simp only at hb1 hb2
          obtain ⟨s, rfl⟩ := Int.eq_ofNat_of_zero_le hb1
          simp only [enc, List.getElem?_cons_zero, List.getElem?_cons_succ, Nat.add_zero] at c0 c1
          have bz := blk_alloc HZ.out (.cells #[.int .i64 (s : Nat), .int .i64 rcnt] 297)
          have k0 : (wr.alloc (.cells #[.int .i64 (s : Nat), .int .i64 rcnt] 297)).cell? ⟨gf, s, none⟩ = some (.int .i64 (freqF (rs.take j) s : Nat)) := by rw [blk_cell bz s, List.getElem?_toArray]; exact freq_get _ (by omega)
          have kf := blk_frozen bz s
          have hfb := freqF_le (rs.take j) s
          rw [List.length_take] at hfb
          have HZ2 := Hd.mk (blk_set bz s (.int .i64 ((freqF (rs.take j) s : Nat) + 1 : Int)))
          rw [freq_set (rs.take j) ((s : Int), rcnt) (by omega) rfl, ← HTK.out] at HZ2
          have HO2 := Hd.mk (own_setFar (own_frame HO.out ((Fr.refl wr []).alloc (.cells #[.int .i64 (s : Nat), .int .i64 rcnt] 297)) (by simp)) (a := ⟨gf, s, none⟩) (.int .i64 ((freqF (rs.take j) s : Nat) + 1 : Int)) (fun h => hnA.out _ h rfl))
          have HK2 := Hd.mk (blk_far (blk_alloc HK.out (.cells #[.int .i64 (s : Nat), .int .i64 rcnt] 297)) (p := ⟨gf, s, none⟩) hgg (.int .i64 ((freqF (rs.take j) s : Nat) + 1 : Int)))
          clear bz
          generalize freqF (rs.take j) s = fq at *
          clear hcc hr
          go_wp2
          go_roundg (gk - 1)
          case measure => omega
          case rel => exact ⟨j + 1, by go_num, by omega, HZ2, HO2, HK2, ⟨(HF.out.alloc _).setCell _ (.inr hgf)⟩⟩
        · obtain rfl : j = n5 := by omega
          have hz7 := HZ.out
          rw [List.take_of_length_le (by omega)] at hz7
          have Z7 := Hd.mk hz7
          have HE := Hd.mk (hlens_eq (rs := rs) (by omega))
          have HLN := Hd.mk (hlens_le (rs := rs) (by omega))
          have SF : Hd (Sl wr (some ⟨gf, 0, none⟩) (i64s (freqOf rs)) (some gf)) := ⟨by have := sl_of_blk hz7; simpa using this⟩
          clear hz7 HZ Z0 K6 O6 F6
          go_wp2_with (fail)
          refine (Lens.lengths_any wr 7 (some ⟨gf, 0, none⟩) 19 19 (freqOf rs) _ (freqOf_len rs) SF.out (by omega)).mono ?_
          rintro e w8 hlp
          unfold Lens.LensPost at hlp
          obtain ⟨A8, n8, c8, rfl, h1, h2, h3⟩ := hlp
          rw [HE.out.1] at h1 ⊢
          rw [← HE.out.2] at h1
          have hn8 : n8 = 19 := by have := h1.1; rw [i64s_length, hlens_len (by omega)] at this; omega
          subst hn8
          have O8 := Hd.mk h1
          have NW8 : Hd (∀ k, (Value.slice A8 19 c8).ownBlock = some k → w.heap.size ≤ k) := ⟨fun k hk => by have := h2 k hk; have := HF.out.size; omega⟩
          have F8 := Hd.mk (HF.out.trans h3 (by simp))
          have K8 := Hd.mk (h3.blk HK.out (by simp))
          have OA8 := Hd.mk (own_frame HO.out h3 (by simp))
          clear h1 h2 h3 HF HK HO Z7 SF
          simp only
          obtain ⟨hl, hhl⟩ : ∃ hl, hl = hlens rs := ⟨_, rfl⟩
          rw [← hhl] at O8 HLN
          have HHL := Hd.mk hhl
          have hl19 : hl.length = 19 := by rw [hhl]; exact hlens_len (by omega)
          clear hhl HE
          have o8' := O8.out
          simp only at o8'
          have O8' := Hd.mk o8'
          subst hn5
          clear o8' O8
          go_upto_region 16 with (fail)
          obtain ⟨pc, hpc⟩ : ∃ pc : Nat → Array Value, pc = fun t => #[.int .i64 (ka : Nat), .int .i64 (kd : Nat), .slice A5 rs.length c5, .slice A8 19 c8, .int .i64 (t : Nat)] := ⟨_, rfl⟩
          have B9 : Hd ((w8.alloc (.cells #[.int .i64 (ka : Nat), .int .i64 (kd : Nat), .slice A5 rs.length c5, .slice A8 19 c8, .int .i64 4] 307)).heap[w8.heap.size]? = some (.cells (pc 4) 307 (0, 0))) := ⟨by rw [hpc]; exact blk_new w8 _⟩
          have A9 := (Fr.refl w8 []).alloc (.cells #[.int .i64 (ka : Nat), .int .i64 (kd : Nat), .slice A5 rs.length c5, .slice A8 19 c8, .int .i64 4] 307)
          have O9 := Hd.mk (own_frame O8'.out A9 (by simp))
          have OA9 := Hd.mk (own_frame OA8.out A9 (by simp))
          have K9 := Hd.mk (A9.blk K8.out (by simp))
          have F9 := Hd.mk (F8.out.trans A9 (by simp))
          have hgp : w.heap.size ≤ w8.heap.size := F8.out.size
          have hgp2 : g ≠ w8.heap.size := by have := blk_lt K8.out; omega
          have HPC := Hd.mk hpc
          clear A9 O8' OA8 K8 F8 hpc
          generalize w8.alloc (.cells #[.int .i64 (ka : Nat), .int .i64 (kd : Nat), .slice A5 rs.length c5, .slice A8 19 c8, .int .i64 4] 307) = w9 at *
          generalize w8.heap.size = gp at *
          have HPS : Hd (∀ t u : Nat, (pc t).setIfInBounds 4 (.int .i64 (u : Nat)) = pc u) := ⟨fun t u => by rw [HPC.out]; rfl⟩
          have HP4 : Hd (∀ t : Nat, (pc t)[4]? = some (.int .i64 (t : Nat))) := ⟨fun t => by rw [HPC.out]; rfl⟩
          go_wp2_with (fail)
          refine (order_any w9).mono ?_
          rintro e w10 ⟨rfl, h1⟩
          have B10 := Hd.mk (h1.blk B9.out (by simp))
          have K10 := Hd.mk (h1.blk K9.out (by simp))
          have O10 := Hd.mk (own_frame O9.out h1 (by simp))
          have OA10 := Hd.mk (own_frame OA9.out h1 (by simp))
          have F10 := Hd.mk (F9.out.trans h1 (by simp))
          clear h1 B9 K9 O9 OA9 F9
          go_wp2
          go_loopg [67] 19 (fun kq jv wq => ∃ j : Nat, jv = .int .i64 (j : Nat) ∧ j + kq = 19 ∧ Hd (wq.heap[gp]? = some (.cells (pc (toldN hl j)) 307 (0, 0))) ∧ Hd (wq.heap[g]? = some (.cells noPlan 307 (0, 0))) ∧ Hd (wq.ownsRow 0 3 1 (.slice A8 19 c8) 19 (i64s hl)) ∧ Hd (wq.ownsRow 0 297 2 (.slice A5 rs.length c5) rs.length (cells rs)) ∧ Hd (Fr w wq []))
          case atStart => exact ⟨0, rfl, rfl, B10, K10, O10, OA10, F10⟩
          case round =>
            obtain ⟨j, rfl, hj, HP, HK, HO, HOA, HF⟩ := hrel
            by_cases hjn : j < 19
            · have hi := ordIdx j hjn
              have hol := ord_lt j hjn
              have HT : Hd (toldN hl (j + 1) = if 0 < hl.getD (ord.getD j 0) 0 then max (toldN hl j) (j + 1) else toldN hl j) := ⟨rfl⟩
              obtain ⟨bx, _, rfl⟩ : ∃ bx, True ∧ A8 = some ⟨bx, 0, none⟩ := by
                obtain ⟨g8, c8', e8, _⟩ := own_some HO.out (by decide)
                injection e8 with e8 _ _
                exact ⟨g8, trivial, e8⟩
              have k0 := i64_at (sl_of_own HO.out) (i := ord.getD j 0) (by omega) rfl
              have htb := toldN_le hl j
              have htg := toldN_ge hl j
              have k4 := (blk_cell HP.out 4).trans (HP4.out _)
              have f4 := blk_frozen HP.out 4
              have HL2 := HLN.out (ord.getD j 0)
              generalize ord.getD j 0 = o at *
              generalize hl.getD o 0 = x at *
              obtain ⟨td, htd⟩ : ∃ td, td = toldN hl j := ⟨_, rfl⟩
              rw [← htd] at HP HT htb htg k4
              clear htd
              rw [Nat.zero_add] at k0
              by_cases hx : x > 0
              · have HT2 : Hd (toldN hl (j + 1) = max td (j + 1)) := ⟨by rw [HT.out, if_pos hx]⟩
                have HP2 := Hd.mk (blk_set HP.out 4 (.int .i64 ((max td (j + 1) : Nat) : Int)))
                rw [HPS.out, ← HT2.out] at HP2
                have HK2 := Hd.mk (blk_far HK.out (p := ⟨gp, 4, none⟩) hgp2 (.int .i64 ((max td (j + 1) : Nat) : Int)))
                have HO2 := Hd.mk (own_setFar HO.out (a := ⟨gp, 4, none⟩) (.int .i64 ((max td (j + 1) : Nat) : Int)) (own_ne HO.out HP.out (by decide)))
                have HOA2 := Hd.mk (own_setFar HOA.out (a := ⟨gp, 4, none⟩) (.int .i64 ((max td (j + 1) : Nat) : Int)) (own_ne HOA.out HP.out (by decide)))
                have hmx : (if (td : Int) < (j : Int) + 1 then (j : Int) + 1 else (td : Int)) = ((max td (j + 1) : Nat) : Int) := by split <;> omega
                clear HT HP HK HO HOA
                go_wp2
                go_roundg (gk - 1)
                case measure => omega
                case rel => exact ⟨j + 1, by go_num, by omega, by rw [HT2.out] at HP2 ⊢; exact HP2, HK2, HO2, HOA2, ⟨HF.out.setCell _ (.inr hgp)⟩⟩
              · have HT2 : Hd (toldN hl (j + 1) = td) := ⟨by rw [HT.out, if_neg hx]⟩
                go_wp2
                go_roundg (gk - 1)
                case measure => omega
                case rel => exact ⟨j + 1, by go_num, by omega, by rw [HT2.out]; exact HP, HK, HO, HOA, HF⟩
            · obtain rfl : j = 19 := by omega
              obtain ⟨td, htd⟩ : ∃ td, td = toldN hl 19 := ⟨_, rfl⟩
              rw [← htd] at HP
              have HTD := Hd.mk htd
              clear htd
              go_wp2_with (first
                | (refine wpList_load_row rfl 307 _ rfl gp rfl 307 (pc td) (0, 0) _ HP.out Tryz.underlying307 rfl (by rw [HPC.out]; exact planInfo) ?_)
                | (refine wpList_store_row rfl 307 _ _ rfl g (pc td) rfl rfl 307 _ (by exact HK.out) (by rw [HPC.out]; exact planInfo) (by rw [HPC.out]; rfl) (by rw [HPC.out]; first | rfl | simp [Value.oneCell']) ?_))
              refine bodyPost_ret (results_pt rfl _ _ g (pc td) rfl (setRow_heap _ _ _ _ _ _ HK.out) (by rw [HPC.out]; rfl) _ rfl) rfl ?_
              have HF2 := Code.Fr.setRow HF.out (pc td) (g := g) (.inr hgw)
              refine ⟨fun _ => ⟨A5, rs.length, c5, A8, c8, ?_, ?_, HF2⟩, fun h => absurd h (by rw [← HB.out]; decide)⟩
              · rw [HPC.out, planC, ← HRS.out, ← HHL.out, HTD.out, HLA.out, HKL.out.2]; rfl
              · have hw : Fr wr (wr.setRow g (pc td)) [g] := Code.Fr.setRow (Fr.refl wr [g]) _ (.inl (by simp))
                refine ⟨?_, ?_, NW5.out, NW8.out⟩
                · rw [← HRS.out]
                  exact own_frame HOA.out hw (fun k hk hm => by
                    simp at hm; subst hm
                    exact own_ne HOA.out HK.out (by decide) hk)
                · rw [← HRS.out, ← HHL.out]
                  exact own_frame HO.out hw (fun k hk hm => by
                    simp at hm; subst hm
                    exact own_ne HO.out HK.out (by decide) hk)
end Go.Proofs.YtkdgfioigkijgaaGreat.Head
set_option linter.unusedVariables false
set_option linter.unusedSimpArgs false
set_option maxRecDepth 100000
namespace Go.Proofs.YtkdgfioigkijgaaGreat.Head
open Go.RowKit Go.Proofs.YtkdgfioigkijgaaGreat.Lib Go.Proofs.YtkdgfioigkijgaaGreat.Ints Go.Proofs.YtkdgfioigkijgaaGreat.Runs
theorem kinds_full (w : World) (s b L M : Int) (h0 : 0 ≤ s) (h1 : s ≤ 18) (hb : b = kbits s) (hL : L = leastN s) (hM : M = mostN s) : Calls Tryz.prog 178 #[.int .i64 s] w fun e w' => e = .returned (.agg #[.int .i64 b, .int .i64 L, .int .i64 M]) ∧ Fr w w' [] := by
  subst hb hL hM
  by_cases h : s < 16
  · refine (kinds_low w s h).mono ?_
    rintro e w' ⟨rfl, hf⟩
    exact ⟨by unfold kbits leastN mostN; rw [if_pos h, if_pos h, if_pos h], hf⟩
  · have : s = 16 ∨ s = 17 ∨ s = 18 := by omega
    rcases this with rfl | rfl | rfl
    · exact kinds_16 w
    · exact kinds_17 w
    · exact kinds_18 w
theorem kf0 (a b c : Int) : ∀ w : World, (Instr.field 311 (.agg #[.int .i64 a, .int .i64 b, .int .i64 c]) 0).run Tryz.prog w = .ok (.int .i64 a) w := fun w => by kernel_rfl
def runCost (hl : List Int) (r : Int × Int) : Int := hl.getD r.1.toNat 0 + kbits r.1
def costF (hl : List Int) : List (Int × Int) → Int
  | [] => 0
  | r :: l => runCost hl r + costF hl l
theorem costF_app (hl : List Int) : ∀ a b, costF hl (a ++ b) = costF hl a + costF hl b
  | [], b => by simp [costF]
  | t :: a, b => by simp only [List.cons_append, costF, costF_app hl a b]; omega
theorem costF_take {hl : List Int} {l : List (Int × Int)} {j : Nat} (h : j < l.length) : costF hl (l.take (j + 1)) = costF hl (l.take j) + runCost hl l[j] := by
  rw [List.take_succ_eq_append_getElem h, costF_app]
  simp [costF]
theorem kbits_le (s : Int) : 0 ≤ kbits s ∧ kbits s ≤ 7 := by
  unfold kbits
  split
  · omega
  · split
    · omega
    · split <;> omega
theorem costF_le {hl : List Int} (h : ∀ s, 0 ≤ hl.getD s 0 ∧ hl.getD s 0 ≤ 7) : ∀ l, 0 ≤ costF hl l ∧ costF hl l ≤ 14 * (l.length : Nat)
  | [] => by simp [costF]
  | r :: l => by
    have h1 := h r.1.toNat
    have h2 := kbits_le r.1
    have h3 := costF_le h l
    simp only [costF, runCost, List.length_cons]
    omega
def hcost (lit dist : List Int) : Int := 14 + 3 * (toldN (hlens (hruns lit dist)) 19 : Nat) + costF (hlens (hruns lit dist)) (hruns lit dist)
theorem fcell {w w' : World} {F : List Nat} (h : Fr w w' F) {a : Addr} {v : Value} (hc : w.cell? a = some v) (hF : a.block ∉ F) : w'.cell? a = some v := by
  rw [World.cell?_of_block (w := w) (h.block _ (World.block_lt_of_cell? w _ hc) hF)]; exact hc
set_option maxHeartbeats 8000000 in
theorem hcost_any (w : World) (A B : Option Addr) (n c m d : Nat) (lit dist : List Int) (p q : Option Nat) (hX : SlArg w A n c (i64s lit) p) (hY : SlArg w B m d (i64s dist) q) (er k : Int) (her : er = if okH lit dist then 0 else 80) (hk : k = if okH lit dist then hcost lit dist else 0) :
    Calls Tryz.prog 139 #[.slice A n c, .slice B m d] w fun e w' => e = .returned (.tuple #[.int .i64 k, .int .i64 er]) ∧ Fr w w' [] := by
  have HX := Hd.mk hX
  have HY := Hd.mk hY
  have HER := Hd.mk her
  have HK := Hd.mk hk
  clear hX hY her hk
  go_enter Tryz.func139, Tryz.ntmps139
  go_wp2_with (fail)
  refine (newPlan_any w A B n c m d lit dist p q HX.out HY.out).mono ?_
  intro e w1 hp
  unfold PlanPost at hp
  obtain ⟨hp1, hp2⟩ := hp
  obtain ⟨b, hb⟩ : ∃ b, b = okH lit dist := ⟨_, rfl⟩
  rw [← hb] at hp1 hp2 HER HK
  cases b with
  | false =>
    obtain ⟨rfl, hf⟩ := hp2 rfl
    have F1 := Hd.mk hf
    obtain rfl : er = 80 := HER.out
    obtain rfl : k = 0 := HK.out
    clear hp1 hp2 hf hb
    unfold noPlan
    go_wp2
    go_ret2
    exact ⟨rfl, F1.out.alloc _⟩
  | true =>
    obtain ⟨A1, n1, c1, B1, d1, rfl, hpl, hf⟩ := hp1 rfl
    obtain rfl : er = 0 := HER.out
    have hkk : k = hcost lit dist := HK.out
    obtain ⟨r1, r2, r3⟩ := hruns_ok hb.symm
    have HLE := hlens_le (rs := hruns lit dist) (by omega)
    have hl19 := hlens_len (rs := hruns lit dist) (by omega)
    have hnr : n1 = (hruns lit dist).length := by have := hpl.runs.1; rw [cells_len] at this; omega
    have P1 := Hd.mk hpl
    have F1 := Hd.mk hf
    have htl := toldN_le (hlens (hruns lit dist)) 19
    have hce := costF_le HLE (hruns lit dist)
    have hok := Hd.mk hb.symm
    have hcc : k = 14 + 3 * (toldN (hlens (hruns lit dist)) 19 : Nat) + costF (hlens (hruns lit dist)) (hruns lit dist) := hkk
    unfold planC
    obtain ⟨td, htd⟩ : ∃ td, td = toldN (hlens (hruns lit dist)) 19 := ⟨_, rfl⟩
    rw [← htd] at htl hcc ⊢
    have O1 := Hd.mk hpl.runs
    have O2 := Hd.mk hpl.lens
    obtain ⟨rs, hrs⟩ : ∃ rs, rs = hruns lit dist := ⟨_, rfl⟩
    obtain ⟨hl, hhl⟩ : ∃ hl, hl = hlens (hruns lit dist) := ⟨_, rfl⟩
    rw [← hhl] at O2 HLE hl19
    rw [← hhl, ← hrs] at hcc
    rw [← hrs] at O1 r1 r2 hnr
    have HCC := Hd.mk hcc
    have HRB := Hd.mk r1
    have HLE2 := Hd.mk HLE
    clear hp1 hp2 hf hpl hkk HLE hcc hrs hhl htd r1 r3 hce hb P1 HX HY HK HER
    generalize ((cutL lit 257).length : Int) = xa at *
    generalize ((distL dist).length : Int) = xb at *
    go_upto_region 4 with (fail)
    obtain ⟨pc, hpc⟩ : ∃ pc : Array Value, pc = #[.int .i64 xa, .int .i64 xb, .slice A1 n1 c1, .slice B1 19 d1, .int .i64 (td : Nat)] := ⟨_, rfl⟩
    have B2 : Hd ((w1.alloc (.cells #[.int .i64 xa, .int .i64 xb, .slice A1 n1 c1, .slice B1 19 d1, .int .i64 (td : Nat)] 307)).heap[w1.heap.size]? = some (.cells #[.int .i64 xa, .int .i64 xb, .slice A1 n1 c1, .slice B1 19 d1, .int .i64 (td : Nat)] 307 (0, 0))) := ⟨blk_new w1 _⟩
    subst hnr
    have A2 := (Fr.refl w1 []).alloc (.cells #[.int .i64 xa, .int .i64 xb, .slice A1 rs.length c1, .slice B1 19 d1, .int .i64 (td : Nat)] 307)
    have OA := Hd.mk (own_frame O1.out A2 (by simp))
    have OB := Hd.mk (own_frame O2.out A2 (by simp))
    have F2 := Hd.mk (F1.out.trans A2 (by simp))
    clear A2 O1 O2 F1 hpc
    generalize w1.alloc (.cells #[.int .i64 xa, .int .i64 xb, .slice A1 rs.length c1, .slice B1 19 d1, .int .i64 (td : Nat)] 307) = w2 at *
    generalize w1.heap.size = g at *
    have k4 := blk_cell B2.out 4
    have k2 := blk_cell B2.out 2
    simp only [List.getElem?_toArray, List.getElem?_cons_zero, List.getElem?_cons_succ] at k4 k2
    obtain ⟨bx, _, rfl⟩ : ∃ bx, True ∧ B1 = some ⟨bx, 0, none⟩ := by
      obtain ⟨g8, c8', e8, _⟩ := own_some OB.out (by decide)
      injection e8 with e8 _ _
      exact ⟨g8, trivial, e8⟩
    go_wp2
    go_loopg [8, 27] rs.length (fun kq sv jv wr => ∃ (j : Nat) (s : Int), sv = .int .i64 s ∧ jv = .int .i64 (j : Nat) ∧ j + kq = rs.length ∧ Hd (s = 14 + 3 * (td : Nat) + costF hl (rs.take j)) ∧ Hd (Fr w2 wr []))
    case atStart => exact ⟨0, 14 + 3 * (td : Nat), rfl, rfl, by omega, ⟨by simp [costF]⟩, ⟨Fr.refl _ _⟩⟩
    case round =>
      obtain ⟨j, s, rfl, rfl, hj, HM, HF⟩ := hrel
      by_cases hjn : j < rs.length
      · obtain ⟨a, o1, e1, _, hcc⟩ := Sl.row (enc := enc) (sz := 2) (fun _ => rfl) (sl_of_own2 (own_frame OA.out HF.out (by simp)) (by omega)) hjn (by decide)
        subst e1
        obtain ⟨r, hr⟩ : ∃ r, r = rs[j] := ⟨_, rfl⟩
        rw [← hr] at hcc
        have hrb := HRB.out r (by rw [hr]; exact List.getElem_mem hjn)
        have c0 := hcc 0 (by decide)
        have c1 := hcc 1 (by decide)
        have HTK : Hd (costF hl (rs.take (j + 1)) = costF hl (rs.take j) + runCost hl r) := ⟨by rw [costF_take hjn, hr]⟩
        have hce := costF_le HLE2.out (rs.take j)
        rw [List.length_take] at hce
        have hs0 : 0 ≤ s ∧ s ≤ 5000 := by rw [HM.out]; omega
        obtain ⟨rsym, rcnt⟩ := r
        obtain ⟨hb1, hb2, _⟩ := hrb
        simp only at hb1 hb2
        obtain ⟨y, rfl⟩ := Int.eq_ofNat_of_zero_le hb1
        simp only [enc, List.getElem?_cons_zero, List.getElem?_cons_succ, Nat.add_zero] at c0 c1
        have HRC : Hd (runCost hl ((y : Int), rcnt) = hl.getD y 0 + kbits (y : Int)) := ⟨rfl⟩
        have kl : wr.cell? ⟨bx, y, none⟩ = some (.int .i64 (hl.getD y 0)) := by
          have := i64_at (sl_of_own (own_frame OB.out HF.out (by simp))) (i := y) (by omega) rfl
          rwa [Nat.zero_add] at this
        have hlb := HLE2.out y
        have hkb := kbits_le (y : Int)
        obtain ⟨kb, hkb'⟩ : ∃ kb, kb = kbits (y : Int) := ⟨_, rfl⟩
        rw [← hkb'] at HRC hkb
        have HKB := Hd.mk hkb'
        have k3 : wr.cell? ⟨g, 3, none⟩ = some (.slice (some ⟨bx, 0, none⟩) 19 d1) := (blk_cell (HF.out.blk B2.out (by simp)) 3)
        generalize hl.getD y 0 = x at *
        clear hcc hr hkb' hce
        go_upto_region 8 with (fail)
        have bz := blk_new wr (.cells #[.int .i64 (y : Nat), .int .i64 rcnt] 297)
        have A3 := (Fr.refl wr []).alloc (.cells #[.int .i64 (y : Nat), .int .i64 rcnt] 297)
        have d0 := blk_cell bz 0
        simp only [List.getElem?_toArray, List.getElem?_cons_zero] at d0
        have d1' := fcell A3 kl (by simp)
        have d2 := fcell A3 k3 (by simp)
        have F3 := Hd.mk (HF.out.trans A3 (by simp))
        clear A3 bz kl k3 c0 c1
        generalize wr.alloc (.cells #[.int .i64 (y : Nat), .int .i64 rcnt] 297) = w3 at *
        generalize wr.heap.size = gr at *
        have hf0 := kf0
        have hb3 : (y : Int) < 19 := by omega
        have n1 : IntKind.i64.wrap (x + kb) = x + kb := IntWalk.i64_in _ (by omega)
        have n2 : IntKind.i64.wrap (s + (x + kb)) = s + (x + kb) := IntWalk.i64_in _ (by omega)
        go_region_held3 (fun w' => w'.cell? ⟨gr, 0, none⟩ = some (.int .i64 (y : Nat)) ∧ w'.cell? ⟨bx, y, none⟩ = some (.int .i64 x) ∧ w'.cell? ⟨g, 3, none⟩ = some (.slice (some ⟨bx, 0, none⟩) 19 d1)) (go_keep)
          (first | (go_at_call 178; refine (kinds_full _ (y : Int) kb _ _ hb1 hb2 HKB.out rfl rfl).mono ?_; rintro e w4 ⟨rfl, hf4⟩; have F4 := Hd.mk (F3.out.trans hf4.ofDrew (by simp)); have d0 := fcell hf4.ofDrew d0 (by simp); have d1' := fcell hf4.ofDrew d1' (by simp); have d2 := fcell hf4.ofDrew d2 (by simp); clear hf4))
        go_wp2
        go_roundg (gk - 1)
        case measure => omega
        case rel => exact ⟨j + 1, s + (x + kb), rfl, by go_num, by omega, ⟨by rw [HTK.out, HRC.out, HM.out]; omega⟩, F4⟩
      · obtain rfl : j = rs.length := by omega
        have hmm : Hd (k = s) := ⟨by rw [HCC.out, HM.out, List.take_length]⟩
        obtain rfl := hmm.out
        go_wp2
        go_ret2
        exact ⟨rfl, F2.out.trans HF.out (by simp)⟩
end Go.Proofs.YtkdgfioigkijgaaGreat.Head
