import Derived.Test.YtkdgfioigkijgaaGreatW01
import Derived.Test.YtkdgfioigkijgaaGreatW02
import Derived.Test.YtkdgfioigkijgaaGreatW04
import Derived.Deep.RegionHeld3
set_option linter.unusedVariables false
set_option linter.unusedSimpArgs false
set_option maxRecDepth 100000
namespace Go.Proofs.YtkdgfioigkijgaaGreat.Lens
open Go.RowKit Go.Proofs.YtkdgfioigkijgaaGreat.Lib Go.Proofs.YtkdgfioigkijgaaGreat.Ints
def out (hi : Int) (xs : List Int) : Bool := xs.any fun x => decide (x < 0 ∨ hi < x)
theorem out_true {hi : Int} {xs : List Int} {j : Nat} (h : j < xs.length) (hx : xs[j] < 0 ∨ hi < xs[j]) : out hi xs = true := by
  simp only [out, List.any_eq_true, decide_eq_true_eq]
  exact ⟨_, List.getElem_mem h, hx⟩
theorem out_false {hi : Int} {xs : List Int} (h : ∀ i, (hi' : i < xs.length) → 0 ≤ xs[i] ∧ xs[i] ≤ hi) : out hi xs = false := by
  rw [Bool.eq_false_iff]
  intro hc
  simp only [out, List.any_eq_true, decide_eq_true_eq] at hc
  obtain ⟨x, hx, h1⟩ := hc
  obtain ⟨i, hi', rfl⟩ := List.getElem_of_mem hx
  have := h i hi'
  omega
theorem of_out {hi : Int} {xs : List Int} (h : out hi xs = false) {j : Nat} (hj : j < xs.length) : 0 ≤ xs[j] ∧ xs[j] ≤ hi := by
  by_cases hx : xs[j] < 0 ∨ hi < xs[j]
  · rw [out_true hj hx] at h; cases h
  · omega
def cn (fs : List Int) : Int := if 288 < fs.length then 40 else if out 1099511627776 fs then 42 else 0
theorem cn_zero {fs : List Int} (h : cn fs = 0) : fs.length ≤ 288 ∧ out 1099511627776 fs = false := by
  unfold cn at h
  split at h
  · cases h
  · split at h
    · cases h
    · rename_i h1 h2; exact ⟨by omega, by cases e : out 1099511627776 fs <;> simp_all⟩
theorem counts_any (w : World) (A : Option Addr) (n c : Nat) (xs : List Int) (p : Option Nat) (hn : xs.length = n) (hS : Sl w A (i64s xs) p) (hn1 : n ≤ 4611686018427387904) :
    Calls Tryz.prog 182 #[.slice A n c] w fun e w' => e = .returned (.int .i64 (cn xs)) ∧ w = w' := by
  subst hn
  have HS := Hd.mk hS
  clear hS
  by_cases hbig : 288 < xs.length
  · have hc : Hd (cn xs = 40) := ⟨by unfold cn; rw [if_pos hbig]⟩
    go_enter Tryz.func182, Tryz.ntmps182
    go_wp2
    go_ret
    exact ⟨by rw [hc.out]; rfl, rfl⟩
  · go_enter Tryz.func182, Tryz.ntmps182
    go_wp2
    go_loopg [10] xs.length (fun kq jv wr => ∃ j : Nat, jv = .int .i64 (j : Nat) ∧ j + kq = xs.length ∧ wr = w ∧ Hd (∀ i, i < j → (h : i < xs.length) → 0 ≤ xs[i] ∧ xs[i] ≤ 1099511627776))
    case atStart => exact ⟨0, rfl, by omega, rfl, ⟨fun i h => absurd h (Nat.not_lt_zero _)⟩⟩
    case round =>
      obtain ⟨j, rfl, hj, rfl, HA⟩ := hrel
      by_cases h1 : j < xs.length
      · obtain ⟨a, o1, rfl, _, ha⟩ := HS.out (by simp [i64s]; omega)
        obtain ⟨x, hx⟩ : ∃ x, x = xs[j] := ⟨_, rfl⟩
        have ca := (ha j (by simp [i64s]; omega)).trans (by rw [i64s_get, List.getElem?_eq_getElem (by omega), ← hx])
        have HX := Hd.mk hx
        clear ha hx
        by_cases h2 : x < 0
        · have hc : Hd (cn xs = 42) := ⟨by unfold cn; rw [if_neg hbig, if_pos (out_true h1 (by rw [← HX.out]; exact .inl h2))]⟩
          go_wp2
          go_ret
          exact ⟨by rw [hc.out]; rfl, rfl⟩
        · by_cases h3 : 1099511627776 < x
          · have hc : Hd (cn xs = 42) := ⟨by unfold cn; rw [if_neg hbig, if_pos (out_true h1 (by rw [← HX.out]; exact .inr h3))]⟩
            go_wp2
            go_ret
            exact ⟨by rw [hc.out]; rfl, rfl⟩
          · go_wp2
            go_roundg (gk - 1)
            case measure => omega
            case rel => exact ⟨j + 1, by go_num, by omega, rfl, ⟨fun i hi h => by
              by_cases e : i = j
              · subst e; rw [← HX.out]; omega
              · exact HA.out i (by omega) h⟩⟩
      · go_wp2
        go_ret
        have hc : cn xs = 0 := by unfold cn; rw [if_neg hbig, out_false (fun i hi => HA.out i (by omega) hi)]; rfl
        exact ⟨by rw [hc]; rfl, rfl⟩
theorem wrong_any (w : World) (A : Option Addr) (n c : Nat) (xs : List Int) (p : Option Nat) (hn : xs.length = n) (hS : Sl w A (i64s xs) p) (hn1 : n ≤ 4611686018427387904) :
    Calls Tryz.prog 146 #[.slice A n c] w fun e w' => e = .returned (.int .i64 (cn xs)) ∧ w = w' := by
  subst hn
  have HS := Hd.mk hS
  clear hS
  by_cases hbig : 288 < xs.length
  · have hc : Hd (cn xs = 40) := ⟨by unfold cn; rw [if_pos hbig]⟩
    go_enter Tryz.func146, Tryz.ntmps146
    go_wp2
    go_ret
    exact ⟨by rw [hc.out]; rfl, rfl⟩
  · go_enter Tryz.func146, Tryz.ntmps146
    go_wp2
    go_loopg [3] xs.length (fun kq jv wr => ∃ j : Nat, jv = .int .i64 (j : Nat) ∧ j + kq = xs.length ∧ wr = w ∧ Hd (∀ i, i < j → (h : i < xs.length) → 0 ≤ xs[i] ∧ xs[i] ≤ 1099511627776))
    case atStart => exact ⟨0, rfl, by omega, rfl, ⟨fun i h => absurd h (Nat.not_lt_zero _)⟩⟩
    case round =>
      obtain ⟨j, rfl, hj, rfl, HA⟩ := hrel
      by_cases h1 : j < xs.length
      · obtain ⟨a, o1, rfl, _, ha⟩ := HS.out (by simp [i64s]; omega)
        obtain ⟨x, hx⟩ : ∃ x, x = xs[j] := ⟨_, rfl⟩
        have ca := (ha j (by simp [i64s]; omega)).trans (by rw [i64s_get, List.getElem?_eq_getElem (by omega), ← hx])
        have HX := Hd.mk hx
        clear ha hx
        by_cases h2 : x < 0
        · have hc : Hd (cn xs = 42) := ⟨by unfold cn; rw [if_neg hbig, if_pos (out_true h1 (by rw [← HX.out]; exact .inl h2))]⟩
          go_wp2
          go_ret
          exact ⟨by rw [hc.out]; rfl, rfl⟩
        · by_cases h3 : 1099511627776 < x
          · have hc : Hd (cn xs = 42) := ⟨by unfold cn; rw [if_neg hbig, if_pos (out_true h1 (by rw [← HX.out]; exact .inr h3))]⟩
            go_wp2
            go_ret
            exact ⟨by rw [hc.out]; rfl, rfl⟩
          · go_wp2
            go_roundg (gk - 1)
            case measure => omega
            case rel => exact ⟨j + 1, by go_num, by omega, rfl, ⟨fun i hi h => by
              by_cases e : i = j
              · subst e; rw [← HX.out]; omega
              · exact HA.out i (by omega) h⟩⟩
      · go_wp2
        go_ret
        have hc : cn xs = 0 := by unfold cn; rw [if_neg hbig, out_false (fun i hi => HA.out i (by omega) hi)]; rfl
        exact ⟨by rw [hc]; rfl, rfl⟩
end Go.Proofs.YtkdgfioigkijgaaGreat.Lens
set_option linter.unusedVariables false
set_option linter.unusedSimpArgs false
set_option maxRecDepth 100000
namespace Go.Proofs.YtkdgfioigkijgaaGreat.Sort
open Go.RowKit Go.Proofs.YtkdgfioigkijgaaGreat.Lib Go.Proofs.YtkdgfioigkijgaaGreat.Ints Go.Proofs.YtkdgfioigkijgaaGreat.Sorts
def lfc (x : Nat × Nat) : List Value := [.int .i64 x.1, .int .i64 x.2, .slice none 0 0]
def lfs (xs : List (Nat × Nat)) : List Value := xs.flatMap lfc
def Rw (w : World) (g n : Nat) (d : Nat → Nat × Nat) : Prop := ∃ cs, w.heap[g]? = some (.cells cs 320 (0, 0)) ∧ cs.toList.take (n * 3) = lfs (lst n d)
theorem Rw.frame {w w' : World} {g n : Nat} {d : Nat → Nat × Nat} (h : Rw w g n d) {F : List Nat} (hf : Fr w w' F) (hg : g ∉ F) : Rw w' g n d := by
  obtain ⟨cs, h1, h2⟩ := h
  exact ⟨cs, hf.blk h1 hg, h2⟩
theorem lfs_len (xs : List (Nat × Nat)) : (lfs xs).length = xs.length * 3 := flat_len lfc 3 (fun _ => rfl) xs
theorem Rw.cell {w : World} {g n : Nat} {d : Nat → Nat × Nat} (h : Rw w g n d) {i j : Nat} (hi : i < n) (hj : j < 3) : w.cell? ⟨g, i * 3 + j, none⟩ = (lfc (d i))[j]? := by
  obtain ⟨cs, h1, h2⟩ := h
  rw [blk_cell h1, ← Array.getElem?_toList]
  have := flat_get lfc 3 (fun _ => rfl) (lst n d) i j (by rw [lst_len]; exact hi) hj
  have e : (lst n d)[i]'(by rw [lst_len]; exact hi) = d i := by simp [lst]
  rw [e] at this
  rw [← this]
  show _ = (lfs (lst n d))[i * 3 + j]?
  rw [← h2, List.getElem?_take, if_pos (by omega)]
theorem Rw.free {w : World} {g n : Nat} {d : Nat → Nat × Nat} (h : Rw w g n d) (o : Nat) : w.frozen? ⟨g, o, none⟩ = false := by
  obtain ⟨cs, h1, _⟩ := h
  exact blk_frozen h1 o
theorem Rw.put {w : World} {g n : Nat} {d : Nat → Nat × Nat} (h : Rw w g n d) {i : Nat} (hi : i < n) (x : Nat × Nat) :
    Rw (((w.setCell ⟨g, i * 3, none⟩ (.int .i64 x.1)).setCell ⟨g, i * 3 + 1, none⟩ (.int .i64 x.2)).setCell ⟨g, i * 3 + 2, none⟩ (.slice none 0 0)) g n (fun k => if k = i then x else d k) := by
  obtain ⟨cs, h1, h2⟩ := h
  have b1 := blk_set h1 (i * 3) (.int .i64 x.1)
  have b2 := blk_set b1 (i * 3 + 1) (.int .i64 x.2)
  have b3 := blk_set b2 (i * 3 + 2) (.slice none 0 0)
  refine ⟨_, b3, ?_⟩
  have hl : (lfs (lst n d)).length = n * 3 := by rw [lfs_len, lst_len]
  have hcs : n * 3 ≤ cs.size := by
    have := congrArg List.length h2
    rw [hl, List.length_take] at this
    have e : cs.toList.length = cs.size := by simp
    omega
  apply List.ext_getElem?
  intro k
  by_cases hk : k < n * 3
  · rw [List.getElem?_take, if_pos hk]
    have q0 : k = k / 3 * 3 + k % 3 := by omega
    have r0 : k % 3 < 3 := Nat.mod_lt _ (by decide)
    have hq : k / 3 < n := by omega
    have e1 := flat_get lfc 3 (fun _ => rfl) (lst n (fun k => if k = i then x else d k)) (k / 3) (k % 3) (by rw [lst_len]; exact hq) r0
    have e2 : (lst n (fun k => if k = i then x else d k))[k / 3]'(by rw [lst_len]; exact hq) = if k / 3 = i then x else d (k / 3) := by simp [lst]
    rw [e2, ← q0] at e1
    have e3 := flat_get lfc 3 (fun _ => rfl) (lst n d) (k / 3) (k % 3) (by rw [lst_len]; exact hq) r0
    have e4 : (lst n d)[k / 3]'(by rw [lst_len]; exact hq) = d (k / 3) := by simp [lst]
    rw [e4, ← q0] at e3
    have e5 : cs[k]? = (lfc (d (k / 3)))[k % 3]? := by
      rw [← e3, ← Array.getElem?_toList]
      show _ = (lfs (lst n d))[k]?
      rw [← h2, List.getElem?_take, if_pos hk]
    show _ = (lfs _)[k]?
    unfold lfs
    rw [e1, Array.getElem?_toList]
    simp only [Array.getElem?_setIfInBounds, Array.size_setIfInBounds]
    by_cases c : k / 3 = i
    · rw [if_pos c]
      have : k % 3 = 0 ∨ k % 3 = 1 ∨ k % 3 = 2 := by omega
      rcases this with r | r | r
      · rw [if_neg (by omega), if_neg (by omega), if_pos (by omega), if_pos (by omega), r]; rfl
      · rw [if_neg (by omega), if_pos (by omega), if_pos (by omega), r]; rfl
      · rw [if_pos (by omega), if_pos (by omega), r]; rfl
    · rw [if_neg c, if_neg (by omega), if_neg (by omega), if_neg (by omega), e5]
  · rw [List.getElem?_eq_none (by rw [List.length_take]; omega), List.getElem?_eq_none (by rw [lfs_len, lst_len]; omega)]
theorem Rw.drew {w : World} {g n : Nat} {d : Nat → Nat × Nat} (h : Rw w g n d) : Rw w.drew g n d := h.frame (Fr.refl w []).drew (by simp)
theorem Rw.drewN {w : World} {g n : Nat} {d : Nat → Nat × Nat} (h : Rw w g n d) (m : Nat) : Rw (w.drewN m) g n d := h.frame ((Fr.refl w []).drewN m) (by simp)
theorem Fr.cellAt {w w' : World} {F : List Nat} (h : Fr w w' F) {g o : Nat} {v : Value} (hg : g ∉ F) (hc : w.cell? ⟨g, o, none⟩ = some v) : w'.cell? ⟨g, o, none⟩ = some v :=
  (World.cell?_of_block (w := w) (h.block g (World.block_lt_of_cell? w _ hc) hg)).trans hc
def six (w : World) (g i j : Nat) (x y : Nat × Nat) : World := (((((w.setCell ⟨g, i * 3, none⟩ (.int .i64 y.1)).setCell ⟨g, i * 3 + 1, none⟩ (.int .i64 y.2)).setCell ⟨g, i * 3 + 2, none⟩ (.slice none 0 0)).setCell ⟨g, j * 3, none⟩ (.int .i64 x.1)).setCell ⟨g, j * 3 + 1, none⟩ (.int .i64 x.2)).setCell ⟨g, j * 3 + 2, none⟩ (.slice none 0 0)
theorem Rw.swap {w : World} {g n : Nat} {d : Nat → Nat × Nat} (h : Rw w g n d) {i j : Nat} (hi : i < n) (hj : j < n) (hne : i ≠ j) {x y : Nat × Nat} (hx : x = d i) (hy : y = d j) : Rw (six w g i j x y) g n (sw d i j) := by
  have h1 := (h.put hi y).put hj x
  have e : (fun k => if k = j then x else if k = i then y else d k) = sw d i j := by
    funext q
    unfold sw
    rw [hx, hy]
    by_cases q1 : q = j
    · rw [if_pos q1, if_neg (by omega), if_pos q1]
    · rw [if_neg q1]
      by_cases q2 : q = i
      · rw [if_pos q2, if_pos q2]
      · rw [if_neg q2, if_neg q2, if_neg q1]
  rw [← e]
  exact h1
theorem Fr.six {w w' : World} {F : List Nat} (h : Fr w w' F) {g i j : Nat} {x y : Nat × Nat} (hg : g ∈ F) : Fr w (six w' g i j x y) F :=
  (((((h.setCell _ (.inl hg)).setCell _ (.inl hg)).setCell _ (.inl hg)).setCell _ (.inl hg)).setCell _ (.inl hg)).setCell _ (.inl hg)
theorem isNaN_any (w : World) (a : Int) : Calls Tryz.prog 203 #[.int .i64 a] w fun e w' => e = .returned (.bool false) ∧ w = w' := by
  have h : (a != a) = false := by simp
  go_enter Tryz.func203, Tryz.ntmps203
  go_wp2
  go_ret
  exact ⟨rfl, rfl⟩
def cmpv (a b : Int) : Int := if a < b then -1 else if b < a then 1 else 0
theorem compare_any (w : World) (a b : Int) : Calls Tryz.prog 198 #[.int .i64 a, .int .i64 b] w fun e w' => e = .returned (.int .i64 (cmpv a b)) ∧ w = w' := by
  by_cases h1 : a < b
  · have hc : Hd (cmpv a b = -1) := ⟨by unfold cmpv; rw [if_pos h1]⟩
    go_enter Tryz.func198, Tryz.ntmps198
    go_wp2_with ((with_reducible refine (isNaN_any _ _).mono ?_); rintro e w' ⟨rfl, rfl⟩)
    go_ret
    rw [hc.out]
    exact ⟨rfl, rfl⟩
  · by_cases h2 : b < a
    · have hc : Hd (cmpv a b = 1) := ⟨by unfold cmpv; rw [if_neg h1, if_pos h2]⟩
      go_enter Tryz.func198, Tryz.ntmps198
      go_wp2_with ((with_reducible refine (isNaN_any _ _).mono ?_); rintro e w' ⟨rfl, rfl⟩)
      go_ret
      rw [hc.out]
      exact ⟨rfl, rfl⟩
    · have hc : Hd (cmpv a b = 0) := ⟨by unfold cmpv; rw [if_neg h1, if_neg h2]⟩
      go_enter Tryz.func198, Tryz.ntmps198
      go_wp2_with ((with_reducible refine (isNaN_any _ _).mono ?_); rintro e w' ⟨rfl, rfl⟩)
      go_ret
      rw [hc.out]
      exact ⟨rfl, rfl⟩
theorem less_any (w : World) (x y : Nat × Nat) :
    Calls Tryz.prog 197 #[.agg #[.int .i64 x.1, .int .i64 x.2, .slice none 0 0], .agg #[.int .i64 y.1, .int .i64 y.2, .slice none 0 0]] w fun e w' => e = .returned (.int .i64 (cmpv x.1 y.1)) ∧ Fr w w' [] := by
  go_enter Tryz.func197, Tryz.ntmps197
  go_wp2_with ((with_reducible refine (compare_any _ _ _).mono ?_); rintro e w' ⟨rfl, rfl⟩)
  go_ret
  exact ⟨rfl, ((Fr.refl _ _).alloc _).alloc _⟩
set_option maxHeartbeats 4000000 in
theorem swapRange_any (w : World) (g n c : Nat) (d : Nat → Nat × Nat) (a b k : Nat) (f : Value) (hR : Rw w g n d) (hn : n ≤ 1099511627776) (hnc : n ≤ c) (h1 : a + k ≤ b) (h2 : b + k ≤ n) :
    Calls Tryz.prog 211 #[.slice (some ⟨g, 0, none⟩) n c, .int .i64 (a : Nat), .int .i64 (b : Nat), .int .i64 (k : Nat), f] w fun e w' => e = .returned (.tuple #[]) ∧ Rw w' g n (swr d a b k) ∧ Fr w w' [g] := by
  have HR := Hd.mk hR
  clear hR
  go_enter Tryz.func211, Tryz.ntmps211
  go_wp2
  go_loopg [10] k (fun kq iv wr => ∃ i : Nat, iv = .int .i64 (i : Nat) ∧ i + kq = k ∧ Hd (Rw wr g n (swr d a b i)) ∧ Hd (Fr w wr [g]))
  case atStart => exact ⟨0, rfl, by omega, ⟨by rw [swr_zero]; exact HR.out⟩, ⟨Fr.refl _ _⟩⟩
  case round =>
    obtain ⟨i, rfl, hi, HRi, HF⟩ := hrel
    by_cases hik : i < k
    · have ca0 := HRi.out.cell (i := a + i) (j := 0) (by omega) (by decide)
      have ca1 := HRi.out.cell (i := a + i) (j := 1) (by omega) (by decide)
      have ca2 := HRi.out.cell (i := a + i) (j := 2) (by omega) (by decide)
      have cb0 := HRi.out.cell (i := b + i) (j := 0) (by omega) (by decide)
      have cb1 := HRi.out.cell (i := b + i) (j := 1) (by omega) (by decide)
      have cb2 := HRi.out.cell (i := b + i) (j := 2) (by omega) (by decide)
      obtain ⟨x, hx⟩ : ∃ x, x = swr d a b i (a + i) := ⟨_, rfl⟩
      obtain ⟨y, hy⟩ : ∃ y, y = swr d a b i (b + i) := ⟨_, rfl⟩
      rw [← hx] at ca0 ca1 ca2
      rw [← hy] at cb0 cb1 cb2
      have HX := Hd.mk hx
      have HY := Hd.mk hy
      clear hx hy
      have fr : ∀ o, wr.frozen? ⟨g, o, none⟩ = false := HRi.out.free
      simp only [lfc, List.getElem?_cons_zero, List.getElem?_cons_succ, Nat.add_zero] at ca0 ca1 ca2 cb0 cb1 cb2
      go_upto_region 3 with (fail)
      have n1 : (↑a + ↑i : Int).toNat = a + i := by omega
      have n2 : (↑b + ↑i : Int).toNat = b + i := by omega
      have n3 : IntKind.i64.wrap (↑a + ↑i) = ↑a + ↑i := IntWalk.i64_in _ (by omega)
      have n4 : IntKind.i64.wrap (↑b + ↑i) = ↑b + ↑i := IntWalk.i64_in _ (by omega)
      have n5 : (0 : Int) ≤ ↑a + ↑i := by omega
      have n6 : (0 : Int) ≤ ↑b + ↑i := by omega
      have n7 : (↑a + ↑i : Int) < ↑n := by omega
      have n8 : (↑b + ↑i : Int) < ↑n := by omega
      go_region
      have HP : Hd (Rw (six wr g (a + i) (b + i) x y).drew g n (swr d a b (i + 1))) := ⟨by
        rw [← swr_step d (a := a) (b := b) (i := i) (by omega)]
        exact (HRi.out.swap (by omega) (by omega) (by omega) HX.out HY.out).drew⟩
      have HF2 : Hd (Fr w (six wr g (a + i) (b + i) x y).drew [g]) := ⟨(Fr.six HF.out (by simp)).drew⟩
      clear n1 n2 n3 n4 n5 n6 n7 n8 ca0 ca1 ca2 cb0 cb1 cb2 fr
      unfold six at HP HF2
      go_wp2
      go_roundg (gk - 1)
      case measure => omega
      case rel => exact ⟨i + 1, by go_num, by omega, HP, HF2⟩
    · obtain rfl : i = k := by omega
      go_wp2
      go_end0
      exact ⟨rfl, HRi.out, HF.out⟩
end Go.Proofs.YtkdgfioigkijgaaGreat.Sort
set_option linter.unusedVariables false
set_option linter.unusedSimpArgs false
set_option maxRecDepth 100000
namespace Go.Proofs.YtkdgfioigkijgaaGreat.Sort
open Go.RowKit Go.Proofs.YtkdgfioigkijgaaGreat.Lib Go.Proofs.YtkdgfioigkijgaaGreat.Ints Go.Proofs.YtkdgfioigkijgaaGreat.Sorts
set_option maxHeartbeats 4000000 in
theorem rotate_any (w : World) (g n c : Nat) (d : Nat → Nat × Nat) (a m b : Nat) (f : Value) (hR : Rw w g n d) (hn : n ≤ 1099511627776) (hnc : n ≤ c) (h1 : a < m) (h2 : m < b) (h3 : b ≤ n) :
    Calls Tryz.prog 209 #[.slice (some ⟨g, 0, none⟩) n c, .int .i64 (a : Nat), .int .i64 (m : Nat), .int .i64 (b : Nat), f] w fun e w' => e = .returned (.tuple #[]) ∧ Rw w' g n (rot d a m b) ∧ Ch n a b d (rot d a m b) ∧ Fr w w' [g] := by
  have HR := Hd.mk hR
  clear hR
  go_enter Tryz.func209, Tryz.ntmps209
  go_wp2
  go_loopg [10, 11] (b - a) (fun kq iv jv wr => ∃ (i j : Nat) (d' : Nat → Nat × Nat), iv = .int .i64 (i : Nat) ∧ jv = .int .i64 (j : Nat) ∧ 0 < i ∧ 0 < j ∧ i ≤ m - a ∧ j ≤ b - m ∧ i + j ≤ kq ∧ Hd (Rot n a m b i j d d') ∧ Hd (Rw wr g n d') ∧ Hd (Fr w wr [g]))
  case atStart => exact ⟨m - a, b - m, d, by go_num, by go_num, by omega, by omega, by omega, by omega, by omega, ⟨Rot.start d h1 h2⟩, HR, ⟨Fr.refl _ _⟩⟩
  case round =>
    obtain ⟨i, j, d', rfl, rfl, hi0, hj0, hi, hj, hk, HT, HW, HF⟩ := hrel
    by_cases hij : i = j
    · subst hij
      have e1 : ((i : Int) != (i : Int)) = false := by simp
      have e3 : Hd ((m : Int) - (i : Int) = ((m - i : Nat) : Int)) := ⟨by omega⟩
      go_wp2_with (fail)
      rw [e3.out]
      refine (swapRange_any _ g n c d' (m - i) m i f HW.out hn hnc (by omega) (by omega)).mono ?_
      rintro e w1 ⟨rfl, q1, q2⟩
      have HW1 := Hd.mk q1
      have HF1 := Hd.mk (HF.out.trans q2 (by simp))
      clear q1 q2
      go_wp2
      go_end0
      have := HT.out.last h1 h2 h3
      have h5 := this.2
      rw [this.1] at h5
      rw [← this.1]
      exact ⟨rfl, HW1.out, by rw [this.1]; exact h5, HF1.out⟩
    · have e1 : ((i : Int) != (j : Int)) = true := by simp; omega
      have e3 : Hd ((m : Int) - (i : Int) = ((m - i : Nat) : Int)) := ⟨by omega⟩
      by_cases hlt : j < i
      · go_wp2_with (fail)
        rw [e3.out]
        refine (swapRange_any _ g n c d' (m - i) m j f HW.out hn hnc (by omega) (by omega)).mono ?_
        rintro e w1 ⟨rfl, q1, q2⟩
        have HW1 := Hd.mk q1
        have HF1 := Hd.mk (HF.out.trans q2 (by simp))
        clear q1 q2
        go_wp2
        go_roundg (gk - 1)
        case measure => omega
        case rel => exact ⟨i - j, j, _, by go_num, rfl, by omega, by omega, by omega, by omega, by omega, ⟨HT.out.left hlt h1 h2 h3⟩, HW1, HF1⟩
      · have e4 : Hd ((m : Int) + (j : Int) - (i : Int) = ((m + j - i : Nat) : Int)) := ⟨by omega⟩
        go_wp2_with (fail)
        rw [e3.out, e4.out]
        refine (swapRange_any _ g n c d' (m - i) (m + j - i) i f HW.out hn hnc (by omega) (by omega)).mono ?_
        rintro e w1 ⟨rfl, q1, q2⟩
        have HW1 := Hd.mk q1
        have HF1 := Hd.mk (HF.out.trans q2 (by simp))
        clear q1 q2
        go_wp2
        go_roundg (gk - 1)
        case measure => omega
        case rel => exact ⟨i, j - i, _, rfl, by go_num, by omega, by omega, by omega, by omega, by omega, ⟨HT.out.right (by omega) h1 h2 h3⟩, HW1, HF1⟩
def lfn : Value := .func (.func 197) #[] #[]
def ky (x : Nat × Nat) : Int := x.1
def rk (x : Nat × Nat) : Nat := x.2
theorem cmpv_lt (a b : Nat) : cmpv (a : Int) (b : Int) < 0 ↔ a < b := by
  unfold cmpv
  by_cases h : (a : Int) < b
  · rw [if_pos h]; omega
  · rw [if_neg h]
    by_cases k : (b : Int) < a
    · rw [if_pos k]; omega
    · rw [if_neg k]; omega
set_option maxHeartbeats 1000000 in
theorem insertion_any (w : World) (g n c : Nat) (d : Nat → Nat × Nat) (a b : Nat) (hR : Rw w g n d) (hn : n ≤ 1099511627776) (hnc : n ≤ c) (h1 : a ≤ b) (h2 : b ≤ n) (hinc : ∀ p q, a ≤ p → p < q → q < b → rk (d p) < rk (d q)) :
    Calls Tryz.prog 205 #[.slice (some ⟨g, 0, none⟩) n c, .int .i64 (a : Nat), .int .i64 (b : Nat), lfn] w fun e w' => e = .returned (.tuple #[]) ∧ (∃ d', Rw w' g n d' ∧ Ch n a b d d' ∧ Srt ky rk d' a b) ∧ Fr w w' [g] := by
  have HR := Hd.mk hR
  have HI := Hd.mk hinc
  clear hR hinc
  unfold lfn
  go_enter Tryz.func205, Tryz.ntmps205
  go_wp2
  go_loopg [8] (b - a) (fun kq iv wr => ∃ (i : Nat) (d' : Nat → Nat × Nat), iv = .int .i64 (i : Nat) ∧ a < i ∧ b - i ≤ kq ∧ (i ≤ b ∨ i = a + 1) ∧ Hd (Ch n a i d d') ∧ Hd (Srt ky rk d' a i) ∧ Hd (Rw wr g n d') ∧ Hd (Fr w wr [g]))
  case atStart => exact ⟨a + 1, d, by go_num, by omega, by omega, .inr rfl, ⟨Ch.refl _ _ _ _⟩, ⟨fun p q e1 e2 e3 => by omega⟩, HR, ⟨Fr.refl _ _⟩⟩
  case round =>
    obtain ⟨i, d1, rfl, hai, hik, hib, HC, HS, HW, HF⟩ := hrel
    obtain ⟨gko, rfl⟩ : ∃ gko, gko = gk := ⟨_, rfl⟩
    by_cases hlt : i < b
    · have HIns : Hd (Ins ky rk n a i i d1 d1) := ⟨Ins.start HS.out (fun p e1 e2 => by
        obtain ⟨j, j1, j2, j3⟩ := HC.out.inn p e1 e2
        rw [j3, HC.out.out i (by omega)]
        exact HI.out j i j1 j2 hlt) (by omega)⟩
      go_wp2
      go_loopg [9] i (fun kq jv wr => ∃ (j : Nat) (d' : Nat → Nat × Nat), jv = .int .i64 (j : Nat) ∧ a ≤ j ∧ j ≤ i ∧ j ≤ kq ∧ Hd (Ins ky rk n a i j d1 d') ∧ Hd (Rw wr g n d') ∧ Hd (Fr w wr [g]))
      case atStart => exact ⟨i, d1, rfl, by omega, by omega, by omega, HIns, HW, HF⟩
      case round =>
        obtain ⟨j, d2, rfl, haj, hji, hjk, HJ, HW2, HF2⟩ := hrel
        by_cases hgt : a < j
        · have ca0 := HW2.out.cell (i := j) (j := 0) (by omega) (by decide)
          have ca1 := HW2.out.cell (i := j) (j := 1) (by omega) (by decide)
          have ca2 := HW2.out.cell (i := j) (j := 2) (by omega) (by decide)
          have cb0 := HW2.out.cell (i := j - 1) (j := 0) (by omega) (by decide)
          have cb1 := HW2.out.cell (i := j - 1) (j := 1) (by omega) (by decide)
          have cb2 := HW2.out.cell (i := j - 1) (j := 2) (by omega) (by decide)
          obtain ⟨x, hx⟩ : ∃ x, x = d2 j := ⟨_, rfl⟩
          obtain ⟨y, hy⟩ : ∃ y, y = d2 (j - 1) := ⟨_, rfl⟩
          rw [← hx] at ca0 ca1 ca2
          rw [← hy] at cb0 cb1 cb2
          have HX := Hd.mk hx
          have HY := Hd.mk hy
          clear hx hy
          simp only [lfc, List.getElem?_cons_zero, List.getElem?_cons_succ, Nat.add_zero] at ca0 ca1 ca2 cb0 cb1 cb2
          have n0 : (1 : Int) ≤ (j : Int) := by omega
          have n1 : ((j : Int) - 1).toNat = j - 1 := by omega
          have n3 : IntKind.i64.wrap ((j : Int) - 1) = (j : Int) - 1 := IntWalk.i64_in _ (by omega)
          have n5 : (0 : Int) ≤ (j : Int) - 1 := by omega
          have n7 : ((j : Int) - 1) < n := by omega
          have n9 : (j : Int) < n := by omega
          by_cases hk : x.1 < y.1
          · have hd : decide (cmpv (x.1 : Int) (y.1 : Int) < 0) = true := by rw [decide_eq_true_eq, cmpv_lt]; exact hk
            have HK : Hd (ky (d2 j) < ky (d2 (j - 1))) := ⟨by rw [← HX.out, ← HY.out]; unfold ky; omega⟩
            go_upto_region 4 with (fail)
            go_region_held3 (fun w' => w'.cell? ⟨g, j * 3, none⟩ = some (.int .i64 x.1) ∧ w'.cell? ⟨g, j * 3 + 1, none⟩ = some (.int .i64 x.2) ∧ w'.cell? ⟨g, j * 3 + 2, none⟩ = some (.slice none 0 0) ∧ w'.cell? ⟨g, (j - 1) * 3, none⟩ = some (.int .i64 y.1) ∧ w'.cell? ⟨g, (j - 1) * 3 + 1, none⟩ = some (.int .i64 y.2) ∧ w'.cell? ⟨g, (j - 1) * 3 + 2, none⟩ = some (.slice none 0 0)) (go_keep)
              (first | (go_at_call 197; refine (less_any _ x y).mono ?_; rintro e w5 ⟨rfl, q5⟩; have k0 := Fr.cellAt q5 (by simp) ca0; have k1 := Fr.cellAt q5 (by simp) ca1; have k2 := Fr.cellAt q5 (by simp) ca2; have l0 := Fr.cellAt q5 (by simp) cb0; have l1 := Fr.cellAt q5 (by simp) cb1; have l2 := Fr.cellAt q5 (by simp) cb2; have Q5 := Hd.mk q5; clear q5))
            rename_i w5 k0 k1 k2 l0 l1 l2 Q5 hHeld
            clear hHeld ca0 ca1 ca2 cb0 cb1 cb2
            have HW5 := Hd.mk (HW2.out.frame Q5.out.ofDrew (by simp))
            have HF5 := Hd.mk (HF2.out.trans Q5.out.ofDrew (by simp))
            have fr : ∀ o, w5.frozen? ⟨g, o, none⟩ = false := HW5.out.free
            go_upto_region 6 with (fail)
            go_region
            have HP : Hd (Rw (six w5 g j (j - 1) x y).drew g n (sw d2 j (j - 1))) := ⟨(HW5.out.swap (by omega) (by omega) (by omega) HX.out HY.out).drew⟩
            have HG : Hd (Fr w (six w5 g j (j - 1) x y).drew [g]) := ⟨(Fr.six HF5.out (by simp)).drew⟩
            clear n1 n3 n5 n7 n9 k0 k1 k2 l0 l1 l2 fr hd
            unfold six at HP HG
            go_wp2
            go_roundg (gk - 1)
            case measure => omega
            case rel => exact ⟨j - 1, _, by go_num, by omega, by omega, by omega, ⟨HJ.out.step hgt (by omega) HK.out⟩, HP, HG⟩
          · have hd : decide (cmpv (x.1 : Int) (y.1 : Int) < 0) = false := by rw [decide_eq_false_iff_not, cmpv_lt]; exact hk
            have HK : Hd (ky (d2 (j - 1)) ≤ ky (d2 j)) := ⟨by rw [← HX.out, ← HY.out]; unfold ky; omega⟩
            go_upto_region 4 with (fail)
            go_region_held3 (fun w' => w'.cell? ⟨g, j * 3, none⟩ = some (.int .i64 x.1) ∧ w'.cell? ⟨g, j * 3 + 1, none⟩ = some (.int .i64 x.2) ∧ w'.cell? ⟨g, j * 3 + 2, none⟩ = some (.slice none 0 0) ∧ w'.cell? ⟨g, (j - 1) * 3, none⟩ = some (.int .i64 y.1) ∧ w'.cell? ⟨g, (j - 1) * 3 + 1, none⟩ = some (.int .i64 y.2) ∧ w'.cell? ⟨g, (j - 1) * 3 + 2, none⟩ = some (.slice none 0 0)) (go_keep)
              (first | (go_at_call 197; refine (less_any _ x y).mono ?_; rintro e w5 ⟨rfl, q5⟩; have k0 := Fr.cellAt q5 (by simp) ca0; have k1 := Fr.cellAt q5 (by simp) ca1; have k2 := Fr.cellAt q5 (by simp) ca2; have l0 := Fr.cellAt q5 (by simp) cb0; have l1 := Fr.cellAt q5 (by simp) cb1; have l2 := Fr.cellAt q5 (by simp) cb2; have Q5 := Hd.mk q5; clear q5))
            rename_i w5 k0 k1 k2 l0 l1 l2 Q5 hHeld
            clear hHeld ca0 ca1 ca2 cb0 cb1 cb2 k0 k1 k2 l0 l1 l2 n1 n3 n5 n7 n9
            have HW5 := Hd.mk (HW2.out.frame Q5.out.ofDrew (by simp))
            have HF5 := Hd.mk (HF2.out.trans Q5.out.ofDrew (by simp))
            go_wp2
            go_roundg (gko - 1)
            case measure => omega
            case rel => exact ⟨i + 1, d2, by go_num, by omega, by omega, .inl (by omega), ⟨(HC.out.wide (Nat.le_refl _) (by omega)).trans HJ.out.ch⟩, ⟨HJ.out.done (.inr (Int.not_lt.2 HK.out))⟩, HW5, HF5⟩
        · obtain rfl : j = a := by omega
          have hd : decide ((j : Int) < (j : Int)) = false := by simp
          go_wp2
          go_region
          go_wp2
          go_roundg (gko - 1)
          case measure => omega
          case rel => exact ⟨i + 1, d2, by go_num, by omega, by omega, .inl (by omega), ⟨(HC.out.wide (Nat.le_refl _) (by omega)).trans HJ.out.ch⟩, ⟨HJ.out.done (.inl rfl)⟩, ⟨HW2.out.drew⟩, ⟨HF2.out.drew⟩⟩
    · go_wp2
      go_end0
      have hib2 : (a < b ∧ i = b) ∨ (a = b ∧ i = a + 1) := by omega
      rcases hib2 with ⟨e1, e2⟩ | ⟨e1, e2⟩
      · subst e2
        exact ⟨rfl, ⟨d1, HW.out, HC.out, HS.out⟩, HF.out⟩
      · subst e1 e2
        refine ⟨rfl, ⟨d1, HW.out, ?_, fun p q a1 a2 a3 => by omega⟩, HF.out⟩
        refine ⟨fun k hk => ?_, fun k k1 k2 => by omega, HC.out.pm⟩
        by_cases hka : k = a
        · obtain ⟨j, j1, j2, j3⟩ := HC.out.inn k (by omega) (by omega)
          rw [j3]; congr 1; omega
        · exact HC.out.out k (by omega)
end Go.Proofs.YtkdgfioigkijgaaGreat.Sort
set_option linter.unusedVariables false
set_option linter.unusedSimpArgs false
set_option maxRecDepth 100000
namespace Go.Proofs.YtkdgfioigkijgaaGreat.Sort
open Go.RowKit Go.Proofs.YtkdgfioigkijgaaGreat.Lib Go.Proofs.YtkdgfioigkijgaaGreat.Ints Go.Proofs.YtkdgfioigkijgaaGreat.Sorts
set_option maxHeartbeats 2000000 in
theorem merge_first (w : World) (g n c : Nat) (d : Nat → Nat × Nat) (a m b : Nat) (hm : m = a + 1) (hR : Rw w g n d) (hn : n ≤ 1099511627776) (hnc : n ≤ c) (h1 : a + 1 < b) (h2 : b ≤ n) (hs : Srt ky rk d (a + 1) b) (hl : Lo rk d a (a + 1) b) :
    Calls Tryz.prog 206 #[.slice (some ⟨g, 0, none⟩) n c, .int .i64 (a : Nat), .int .i64 (m : Nat), .int .i64 (b : Nat), lfn] w fun e w' => e = .returned (.tuple #[]) ∧ (∃ d', Rw w' g n d' ∧ Ch n a b d d' ∧ Srt ky rk d' a b) ∧ Fr w w' [g] := by
  have HR := Hd.mk hR
  have HS := Hd.mk hs
  have HL := Hd.mk hl
  clear hR hs hl
  unfold lfn
  have e0 : (((m : Int) - (a : Int) == 1)) = true := by simp; omega
  have e2 : a ≤ m ∧ m ≤ b := by omega
  have HM := Hd.mk hm
  clear hm
  go_enter Tryz.func206, Tryz.ntmps206
  go_wp2
  go_loopg [10, 11] (b - a - 1) (fun kq iv jv wr => ∃ (i j : Nat), iv = .int .i64 (i : Nat) ∧ jv = .int .i64 (j : Nat) ∧ a + 1 ≤ i ∧ i ≤ j ∧ j ≤ b ∧ j - i ≤ kq ∧ Hd (∀ q, a + 1 ≤ q → q < i → ky (d q) < ky (d a)) ∧ Hd (∀ q, j ≤ q → q < b → ¬ ky (d q) < ky (d a)) ∧ Hd (Rw wr g n d) ∧ Hd (Fr w wr [g]))
  case atStart => have := HM.out; exact ⟨m, b, rfl, rfl, by omega, by omega, by omega, by omega, ⟨fun q q1 q2 => by omega⟩, ⟨fun q q1 q2 => by omega⟩, HR, ⟨Fr.refl _ _⟩⟩
  case round =>
    obtain ⟨i, j, rfl, rfl, hai, hij, hjb, hk, HA, HB, HW, HF⟩ := hrel
    by_cases hlt : i < j
    · obtain ⟨h, hh⟩ : ∃ h, h = (i + j) / 2 := ⟨_, rfl⟩
      go_upto_region 5 with (fail)
      rw [show ((i : Int) + (j : Int)) / 2 = ((h : Nat) : Int) from by omega]
      have ca0 := HW.out.cell (i := h) (j := 0) (by omega) (by decide)
      have ca1 := HW.out.cell (i := h) (j := 1) (by omega) (by decide)
      have ca2 := HW.out.cell (i := h) (j := 2) (by omega) (by decide)
      have cb0 := HW.out.cell (i := a) (j := 0) (by omega) (by decide)
      have cb1 := HW.out.cell (i := a) (j := 1) (by omega) (by decide)
      have cb2 := HW.out.cell (i := a) (j := 2) (by omega) (by decide)
      obtain ⟨x, hx⟩ : ∃ x, x = d h := ⟨_, rfl⟩
      obtain ⟨y, hy⟩ : ∃ y, y = d a := ⟨_, rfl⟩
      rw [← hx] at ca0 ca1 ca2
      rw [← hy] at cb0 cb1 cb2
      have HX := Hd.mk hx
      have HY := Hd.mk hy
      have HH := Hd.mk hh
      have hhb : i ≤ h ∧ h < j := by omega
      clear hx hy hh
      simp only [lfc, List.getElem?_cons_zero, List.getElem?_cons_succ, Nat.add_zero] at ca0 ca1 ca2 cb0 cb1 cb2
      have n7 : (h : Int) < n := by omega
      have n9 : (a : Int) < n := by omega
      by_cases hk2 : x.1 < y.1
      · have hd : decide (cmpv (x.1 : Int) (y.1 : Int) < 0) = true := by rw [decide_eq_true_eq, cmpv_lt]; exact hk2
        have HK : Hd (ky (d h) < ky (d a)) := ⟨by rw [← HX.out, ← HY.out]; unfold ky; omega⟩
        go_region_held3 (fun w' => w'.cell? ⟨g, h * 3, none⟩ = some (.int .i64 x.1) ∧ w'.cell? ⟨g, h * 3 + 1, none⟩ = some (.int .i64 x.2) ∧ w'.cell? ⟨g, h * 3 + 2, none⟩ = some (.slice none 0 0) ∧ w'.cell? ⟨g, a * 3, none⟩ = some (.int .i64 y.1) ∧ w'.cell? ⟨g, a * 3 + 1, none⟩ = some (.int .i64 y.2) ∧ w'.cell? ⟨g, a * 3 + 2, none⟩ = some (.slice none 0 0)) (go_keep)
          (first | (go_at_call 197; refine (less_any _ x y).mono ?_; rintro e w5 ⟨rfl, q5⟩; have k0 := Fr.cellAt q5 (by simp) ca0; have k1 := Fr.cellAt q5 (by simp) ca1; have k2 := Fr.cellAt q5 (by simp) ca2; have l0 := Fr.cellAt q5 (by simp) cb0; have l1 := Fr.cellAt q5 (by simp) cb1; have l2 := Fr.cellAt q5 (by simp) cb2; have Q5 := Hd.mk q5; clear q5))
        clear ca0 ca1 ca2 cb0 cb1 cb2 k0 k1 k2 l0 l1 l2 n7 n9
        have HW5 := Hd.mk (HW.out.frame Q5.out.ofDrew (by simp))
        have HF5 := Hd.mk (HF.out.trans Q5.out.ofDrew (by simp))
        go_wp2
        go_roundg (gk - 1)
        case measure => omega
        case rel => exact ⟨h + 1, j, by go_num, rfl, by omega, by omega, by omega, by omega, ⟨fun q q1 q2 => by
          have := HS.out.key_le q1 (show q ≤ h by omega) (by omega)
          have := HK.out
          omega⟩, HB, HW5, HF5⟩
      · have hd : decide (cmpv (x.1 : Int) (y.1 : Int) < 0) = false := by rw [decide_eq_false_iff_not, cmpv_lt]; exact hk2
        have HK : Hd (ky (d a) ≤ ky (d h)) := ⟨by rw [← HX.out, ← HY.out]; unfold ky; omega⟩
        go_region_held3 (fun w' => w'.cell? ⟨g, h * 3, none⟩ = some (.int .i64 x.1) ∧ w'.cell? ⟨g, h * 3 + 1, none⟩ = some (.int .i64 x.2) ∧ w'.cell? ⟨g, h * 3 + 2, none⟩ = some (.slice none 0 0) ∧ w'.cell? ⟨g, a * 3, none⟩ = some (.int .i64 y.1) ∧ w'.cell? ⟨g, a * 3 + 1, none⟩ = some (.int .i64 y.2) ∧ w'.cell? ⟨g, a * 3 + 2, none⟩ = some (.slice none 0 0)) (go_keep)
          (first | (go_at_call 197; refine (less_any _ x y).mono ?_; rintro e w5 ⟨rfl, q5⟩; have k0 := Fr.cellAt q5 (by simp) ca0; have k1 := Fr.cellAt q5 (by simp) ca1; have k2 := Fr.cellAt q5 (by simp) ca2; have l0 := Fr.cellAt q5 (by simp) cb0; have l1 := Fr.cellAt q5 (by simp) cb1; have l2 := Fr.cellAt q5 (by simp) cb2; have Q5 := Hd.mk q5; clear q5))
        clear ca0 ca1 ca2 cb0 cb1 cb2 k0 k1 k2 l0 l1 l2 n7 n9
        have HW5 := Hd.mk (HW.out.frame Q5.out.ofDrew (by simp))
        have HF5 := Hd.mk (HF.out.trans Q5.out.ofDrew (by simp))
        go_wp2
        go_roundg (gk - 1)
        case measure => omega
        case rel => exact ⟨i, h, rfl, rfl, by omega, by omega, by omega, by omega, HA, ⟨fun q q1 q2 => by
          have := HS.out.key_le (show a + 1 ≤ h by omega) q1 q2
          have := HK.out
          omega⟩, HW5, HF5⟩
    · obtain rfl : i = j := by omega
      go_wp2
      go_loopg [13] (i - 1 - a) (fun kq kv wr2 => ∃ (k : Nat), kv = .int .i64 (k : Nat) ∧ a ≤ k ∧ k ≤ i - 1 ∧ i - 1 - k ≤ kq ∧ Hd (Ch n a b d (shl d a k)) ∧ Hd (Rw wr2 g n (shl d a k)) ∧ Hd (Fr w wr2 [g]))
      case atStart => exact ⟨a, rfl, by omega, by omega, by omega, ⟨by rw [shl_start]; exact Ch.refl _ _ _ _⟩, ⟨by rw [shl_start]; exact HW.out⟩, HF⟩
      case round =>
        obtain ⟨k, rfl, hak, hki, hkk, HC, HW2, HF2⟩ := hrel
        by_cases hlt2 : k < i - 1
        · have n0 : (k : Int) < (i : Int) - 1 := by omega
          go_upto_region 11 with (fail)
          have ca0 := HW2.out.cell (i := k) (j := 0) (by omega) (by decide)
          have ca1 := HW2.out.cell (i := k) (j := 1) (by omega) (by decide)
          have ca2 := HW2.out.cell (i := k) (j := 2) (by omega) (by decide)
          have cb0 := HW2.out.cell (i := k + 1) (j := 0) (by omega) (by decide)
          have cb1 := HW2.out.cell (i := k + 1) (j := 1) (by omega) (by decide)
          have cb2 := HW2.out.cell (i := k + 1) (j := 2) (by omega) (by decide)
          obtain ⟨x, hx⟩ : ∃ x, x = shl d a k k := ⟨_, rfl⟩
          obtain ⟨y, hy⟩ : ∃ y, y = shl d a k (k + 1) := ⟨_, rfl⟩
          rw [← hx] at ca0 ca1 ca2
          rw [← hy] at cb0 cb1 cb2
          have HX := Hd.mk hx
          have HY := Hd.mk hy
          clear hx hy
          simp only [lfc, List.getElem?_cons_zero, List.getElem?_cons_succ, Nat.add_zero] at ca0 ca1 ca2 cb0 cb1 cb2
          have fr : ∀ o, wr.frozen? ⟨g, o, none⟩ = false := HW2.out.free
          have n1 : ((k : Int) + 1).toNat = k + 1 := by omega
          have n3 : IntKind.i64.wrap ((k : Int) + 1) = (k : Int) + 1 := IntWalk.i64_in _ (by omega)
          have n5 : (0 : Int) ≤ (k : Int) + 1 := by omega
          have n7 : ((k : Int) + 1) < n := by omega
          have n9 : (k : Int) < n := by omega
          go_region
          have HP : Hd (Rw (six wr g k (k + 1) x y).drew g n (shl d a (k + 1))) := ⟨by rw [← shl_step d hak]; exact (HW2.out.swap (by omega) (by omega) (by omega) HX.out HY.out).drew⟩
          have HG : Hd (Fr w (six wr g k (k + 1) x y).drew [g]) := ⟨(Fr.six HF2.out (by simp)).drew⟩
          have HD : Hd (Ch n a b d (shl d a (k + 1))) := ⟨by rw [← shl_step d hak]; exact HC.out.trans (Ch.sw _ h2 (by omega) (by omega))⟩
          clear n1 n3 n5 n7 n9 ca0 ca1 ca2 cb0 cb1 cb2 fr
          unfold six at HP HG
          go_wp2
          go_roundg (gk - 1)
          case measure => omega
          case rel => exact ⟨k + 1, by go_num, by omega, by omega, by omega, HD, HP, HG⟩
        · obtain rfl : k = i - 1 := by omega
          have n0 : ¬ ((i - 1 : Nat) : Int) < (i : Int) - 1 := by omega
          go_wp2
          (try simp only [Exit.inBlock, Exit.then]); refine bodyPost_ret (results_none rfl _ _ _) rfl ?_
          exact ⟨rfl, ⟨_, HW2.out, HC.out, shl_srt HS.out HL.out hai hjb HA.out (fun q q1 q2 => Int.not_lt.2 (HB.out q q1 q2))⟩, HF2.out⟩
set_option maxHeartbeats 2000000 in
theorem merge_last (w : World) (g n c : Nat) (d : Nat → Nat × Nat) (a m b : Nat) (hb : b = m + 1) (hR : Rw w g n d) (hn : n ≤ 1099511627776) (hnc : n ≤ c) (h1 : a + 1 < m) (h2 : b ≤ n) (hs : Srt ky rk d a m) (hl : Lo rk d a m (m + 1)) :
    Calls Tryz.prog 206 #[.slice (some ⟨g, 0, none⟩) n c, .int .i64 (a : Nat), .int .i64 (m : Nat), .int .i64 (b : Nat), lfn] w fun e w' => e = .returned (.tuple #[]) ∧ (∃ d', Rw w' g n d' ∧ Ch n a b d d' ∧ Srt ky rk d' a b) ∧ Fr w w' [g] := by
  have HR := Hd.mk hR
  have HS := Hd.mk hs
  have HL := Hd.mk hl
  clear hR hs hl
  unfold lfn
  have e0 : (((m : Int) - (a : Int) == 1)) = false := by simp; omega
  have e3 : (((b : Int) - (m : Int) == 1)) = true := by simp; omega
  have e2 : a ≤ m ∧ m ≤ b ∧ m < n := by omega
  have HM := Hd.mk hb
  clear hb
  go_enter Tryz.func206, Tryz.ntmps206
  go_wp2
  go_loopg [14, 15] (m - a) (fun kq iv jv wr => ∃ (i j : Nat), iv = .int .i64 (i : Nat) ∧ jv = .int .i64 (j : Nat) ∧ a ≤ i ∧ i ≤ j ∧ j ≤ m ∧ j - i ≤ kq ∧ Hd (∀ q, a ≤ q → q < i → ky (d q) ≤ ky (d m)) ∧ Hd (∀ q, j ≤ q → q < m → ky (d m) < ky (d q)) ∧ Hd (Rw wr g n d) ∧ Hd (Fr w wr [g]))
  case atStart => exact ⟨a, m, rfl, rfl, by omega, by omega, by omega, by omega, ⟨fun q q1 q2 => by omega⟩, ⟨fun q q1 q2 => by omega⟩, HR, ⟨Fr.refl _ _⟩⟩
  case round =>
    obtain ⟨i, j, rfl, rfl, hai, hij, hjb, hk, HA, HB, HW, HF⟩ := hrel
    by_cases hlt : i < j
    · obtain ⟨h, hh⟩ : ∃ h, h = (i + j) / 2 := ⟨_, rfl⟩
      go_upto_region 17 with (fail)
      rw [show ((i : Int) + (j : Int)) / 2 = ((h : Nat) : Int) from by omega]
      have ca0 := HW.out.cell (i := m) (j := 0) (by omega) (by decide)
      have ca1 := HW.out.cell (i := m) (j := 1) (by omega) (by decide)
      have ca2 := HW.out.cell (i := m) (j := 2) (by omega) (by decide)
      have cb0 := HW.out.cell (i := h) (j := 0) (by omega) (by decide)
      have cb1 := HW.out.cell (i := h) (j := 1) (by omega) (by decide)
      have cb2 := HW.out.cell (i := h) (j := 2) (by omega) (by decide)
      obtain ⟨x, hx⟩ : ∃ x, x = d m := ⟨_, rfl⟩
      obtain ⟨y, hy⟩ : ∃ y, y = d h := ⟨_, rfl⟩
      rw [← hx] at ca0 ca1 ca2
      rw [← hy] at cb0 cb1 cb2
      have HX := Hd.mk hx
      have HY := Hd.mk hy
      have HH := Hd.mk hh
      have hhb : i ≤ h ∧ h < j := by omega
      clear hx hy hh
      simp only [lfc, List.getElem?_cons_zero, List.getElem?_cons_succ, Nat.add_zero] at ca0 ca1 ca2 cb0 cb1 cb2
      have n7 : (h : Int) < n := by omega
      have n9 : (m : Int) < n := by omega
      by_cases hk2 : x.1 < y.1
      · have hd : decide (cmpv (x.1 : Int) (y.1 : Int) < 0) = true := by rw [decide_eq_true_eq, cmpv_lt]; exact hk2
        have HK : Hd (ky (d m) < ky (d h)) := ⟨by rw [← HX.out, ← HY.out]; unfold ky; omega⟩
        go_region_held3 (fun w' => w'.cell? ⟨g, m * 3, none⟩ = some (.int .i64 x.1) ∧ w'.cell? ⟨g, m * 3 + 1, none⟩ = some (.int .i64 x.2) ∧ w'.cell? ⟨g, m * 3 + 2, none⟩ = some (.slice none 0 0) ∧ w'.cell? ⟨g, h * 3, none⟩ = some (.int .i64 y.1) ∧ w'.cell? ⟨g, h * 3 + 1, none⟩ = some (.int .i64 y.2) ∧ w'.cell? ⟨g, h * 3 + 2, none⟩ = some (.slice none 0 0)) (go_keep)
          (first | (go_at_call 197; refine (less_any _ x y).mono ?_; rintro e w5 ⟨rfl, q5⟩; have k0 := Fr.cellAt q5 (by simp) ca0; have k1 := Fr.cellAt q5 (by simp) ca1; have k2 := Fr.cellAt q5 (by simp) ca2; have l0 := Fr.cellAt q5 (by simp) cb0; have l1 := Fr.cellAt q5 (by simp) cb1; have l2 := Fr.cellAt q5 (by simp) cb2; have Q5 := Hd.mk q5; clear q5))
        clear ca0 ca1 ca2 cb0 cb1 cb2 k0 k1 k2 l0 l1 l2 n7 n9
        have HW5 := Hd.mk (HW.out.frame Q5.out.ofDrew (by simp))
        have HF5 := Hd.mk (HF.out.trans Q5.out.ofDrew (by simp))
        go_wp2
        go_roundg (gk - 1)
        case measure => omega
        case rel => exact ⟨i, h, rfl, rfl, by omega, by omega, by omega, by omega, HA, ⟨fun q q1 q2 => by
          have := HS.out.key_le (show a ≤ h by omega) q1 q2
          have := HK.out
          omega⟩, HW5, HF5⟩
      · have hd : decide (cmpv (x.1 : Int) (y.1 : Int) < 0) = false := by rw [decide_eq_false_iff_not, cmpv_lt]; exact hk2
        have HK : Hd (ky (d h) ≤ ky (d m)) := ⟨by rw [← HX.out, ← HY.out]; unfold ky; omega⟩
        go_region_held3 (fun w' => w'.cell? ⟨g, m * 3, none⟩ = some (.int .i64 x.1) ∧ w'.cell? ⟨g, m * 3 + 1, none⟩ = some (.int .i64 x.2) ∧ w'.cell? ⟨g, m * 3 + 2, none⟩ = some (.slice none 0 0) ∧ w'.cell? ⟨g, h * 3, none⟩ = some (.int .i64 y.1) ∧ w'.cell? ⟨g, h * 3 + 1, none⟩ = some (.int .i64 y.2) ∧ w'.cell? ⟨g, h * 3 + 2, none⟩ = some (.slice none 0 0)) (go_keep)
          (first | (go_at_call 197; refine (less_any _ x y).mono ?_; rintro e w5 ⟨rfl, q5⟩; have k0 := Fr.cellAt q5 (by simp) ca0; have k1 := Fr.cellAt q5 (by simp) ca1; have k2 := Fr.cellAt q5 (by simp) ca2; have l0 := Fr.cellAt q5 (by simp) cb0; have l1 := Fr.cellAt q5 (by simp) cb1; have l2 := Fr.cellAt q5 (by simp) cb2; have Q5 := Hd.mk q5; clear q5))
        clear ca0 ca1 ca2 cb0 cb1 cb2 k0 k1 k2 l0 l1 l2 n7 n9
        have HW5 := Hd.mk (HW.out.frame Q5.out.ofDrew (by simp))
        have HF5 := Hd.mk (HF.out.trans Q5.out.ofDrew (by simp))
        go_wp2
        go_roundg (gk - 1)
        case measure => omega
        case rel => exact ⟨h + 1, j, by go_num, rfl, by omega, by omega, by omega, by omega, ⟨fun q q1 q2 => by
          have := HS.out.key_le q1 (show q ≤ h by omega) (by omega)
          have := HK.out
          omega⟩, HB, HW5, HF5⟩
    · obtain rfl : i = j := by omega
      go_wp2
      go_loopg [17] (m - i) (fun kq kv wr2 => ∃ (k : Nat), kv = .int .i64 (k : Nat) ∧ i ≤ k ∧ k ≤ m ∧ k - i ≤ kq ∧ Hd (Ch n a b d (shr d m k)) ∧ Hd (Rw wr2 g n (shr d m k)) ∧ Hd (Fr w wr2 [g]))
      case atStart => exact ⟨m, rfl, by omega, by omega, by omega, ⟨by rw [shr_start]; exact Ch.refl _ _ _ _⟩, ⟨by rw [shr_start]; exact HW.out⟩, HF⟩
      case round =>
        obtain ⟨k, rfl, hak, hki, hkk, HC, HW2, HF2⟩ := hrel
        by_cases hlt2 : i < k
        · go_upto_region 23 with (fail)
          have ca0 := HW2.out.cell (i := k) (j := 0) (by omega) (by decide)
          have ca1 := HW2.out.cell (i := k) (j := 1) (by omega) (by decide)
          have ca2 := HW2.out.cell (i := k) (j := 2) (by omega) (by decide)
          have cb0 := HW2.out.cell (i := k - 1) (j := 0) (by omega) (by decide)
          have cb1 := HW2.out.cell (i := k - 1) (j := 1) (by omega) (by decide)
          have cb2 := HW2.out.cell (i := k - 1) (j := 2) (by omega) (by decide)
          obtain ⟨x, hx⟩ : ∃ x, x = shr d m k k := ⟨_, rfl⟩
          obtain ⟨y, hy⟩ : ∃ y, y = shr d m k (k - 1) := ⟨_, rfl⟩
          rw [← hx] at ca0 ca1 ca2
          rw [← hy] at cb0 cb1 cb2
          have HX := Hd.mk hx
          have HY := Hd.mk hy
          clear hx hy
          simp only [lfc, List.getElem?_cons_zero, List.getElem?_cons_succ, Nat.add_zero] at ca0 ca1 ca2 cb0 cb1 cb2
          have fr : ∀ o, wr.frozen? ⟨g, o, none⟩ = false := HW2.out.free
          have n0 : (1 : Int) ≤ (k : Int) := by omega
          have n1 : ((k : Int) - 1).toNat = k - 1 := by omega
          have n3 : IntKind.i64.wrap ((k : Int) - 1) = (k : Int) - 1 := IntWalk.i64_in _ (by omega)
          have n5 : (0 : Int) ≤ (k : Int) - 1 := by omega
          have n7 : ((k : Int) - 1) < n := by omega
          have n9 : (k : Int) < n := by omega
          go_region
          have HP : Hd (Rw (six wr g k (k - 1) x y).drew g n (shr d m (k - 1))) := ⟨by rw [← shr_step d hki (by omega)]; exact (HW2.out.swap (by omega) (by omega) (by omega) HX.out HY.out).drew⟩
          have HG : Hd (Fr w (six wr g k (k - 1) x y).drew [g]) := ⟨(Fr.six HF2.out (by simp)).drew⟩
          have HD : Hd (Ch n a b d (shr d m (k - 1))) := ⟨by have := HM.out; rw [← shr_step d hki (by omega)]; exact HC.out.trans (Ch.sw _ h2 (by omega) (by omega))⟩
          clear n1 n3 n5 n7 n9 ca0 ca1 ca2 cb0 cb1 cb2 fr
          unfold six at HP HG
          go_wp2
          go_roundg (gk - 1)
          case measure => omega
          case rel => exact ⟨k - 1, by go_num, by omega, by omega, by omega, HD, HP, HG⟩
        · obtain rfl : i = k := by omega
          go_wp2
          (try simp only [Exit.inBlock, Exit.then]); refine bodyPost_ret (results_none rfl _ _ _) rfl ?_
          exact ⟨rfl, ⟨_, HW2.out, HC.out, by rw [HM.out]; exact shr_srt HS.out HL.out hai hjb (fun q q1 q2 => Int.not_lt.2 (HA.out q q1 q2)) HB.out⟩, HF2.out⟩
end Go.Proofs.YtkdgfioigkijgaaGreat.Sort
