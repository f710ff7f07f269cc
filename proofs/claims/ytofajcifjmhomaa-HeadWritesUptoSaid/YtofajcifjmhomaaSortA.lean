/- Stable sorting of leaves (chapter 04): the comparison, two ranges exchanged. Conditions: at most 2^40 items. -/
import Derived.Test.YtofajcifjmhomaaInts
import Derived.Test.YtofajcifjmhomaaSortPlain2
set_option linter.unusedVariables false
set_option linter.unusedSimpArgs false
set_option maxRecDepth 100000
namespace Go.Proofs.Ytofajcifjmhomaa.Sort
open Go.RowKit Go.Proofs.Ytofajcifjmhomaa.Lib Go.Proofs.Ytofajcifjmhomaa.Ints Go.Proofs.Ytofajcifjmhomaa.Sorts

/-- a leaf's cells: its count and its symbol -/
def lfc (x : Nat × Nat) : List Value := [.int .i64 x.1, .int .i64 x.2, .slice none 0 0]
def lfs (xs : List (Nat × Nat)) : List Value := xs.flatMap lfc
/-- the row that is sorted -/
def Rw (w : World) (g n : Nat) (d : Nat → Nat × Nat) : Prop := ∃ cs, w.heap[g]? = some (.cells cs 154 (0, 0)) ∧ cs.toList.take (n * 3) = lfs (lst n d)
theorem Rw.frame {w w' : World} {g n : Nat} {d : Nat → Nat × Nat} (h : Rw w g n d) {F : List Nat} (hf : Fr w w' F) (hg : g ∉ F) : Rw w' g n d := by
  obtain ⟨cs, h1, h2⟩ := h
  exact ⟨cs, hf.blk h1 hg, h2⟩
theorem lfs_len (xs : List (Nat × Nat)) : (lfs xs).length = xs.length * 3 := flat_len lfc 3 (fun _ => rfl) xs
theorem Rw.cell {w : World} {g n : Nat} {d : Nat → Nat × Nat} (h : Rw w g n d) {i j : Nat} (hi : i < n) (hj : j < 3) : w.cell? ⟨g, i * 3 + j, none⟩ = (lfc (d i))[j]? := by
  obtain ⟨cs, h1, h2⟩ := h
  rw [blk_cell h1, ← Array.getElem?_toList]
  have := flat_get lfc 3 (fun _ => rfl) (lst n d) i j (by rw [lst_len]; exact hi) hj
  have e : (lst n d)[i]'(by rw [lst_len]; exact hi) = d i := by simp [lst]
  rw [e] at this
  rw [← this]
  show _ = (lfs (lst n d))[i * 3 + j]?
  rw [← h2, List.getElem?_take, if_pos (by omega)]
theorem Rw.free {w : World} {g n : Nat} {d : Nat → Nat × Nat} (h : Rw w g n d) (o : Nat) : w.frozen? ⟨g, o, none⟩ = false := by
  obtain ⟨cs, h1, _⟩ := h
  exact blk_frozen h1 o
/-- an element is laid into the row -/
theorem Rw.put {w : World} {g n : Nat} {d : Nat → Nat × Nat} (h : Rw w g n d) {i : Nat} (hi : i < n) (x : Nat × Nat) :
    Rw (((w.setCell ⟨g, i * 3, none⟩ (.int .i64 x.1)).setCell ⟨g, i * 3 + 1, none⟩ (.int .i64 x.2)).setCell ⟨g, i * 3 + 2, none⟩ (.slice none 0 0)) g n (fun k => if k = i then x else d k) := by
  obtain ⟨cs, h1, h2⟩ := h
  have b1 := blk_set h1 (i * 3) (.int .i64 x.1)
  have b2 := blk_set b1 (i * 3 + 1) (.int .i64 x.2)
  have b3 := blk_set b2 (i * 3 + 2) (.slice none 0 0)
  refine ⟨_, b3, ?_⟩
  have hl : (lfs (lst n d)).length = n * 3 := by rw [lfs_len, lst_len]
  have hcs : n * 3 ≤ cs.size := by
    have := congrArg List.length h2
    rw [hl, List.length_take] at this
    have e : cs.toList.length = cs.size := by simp
    omega
  apply List.ext_getElem?
  intro k
  by_cases hk : k < n * 3
  · rw [List.getElem?_take, if_pos hk]
    have q0 : k = k / 3 * 3 + k % 3 := by omega
    have r0 : k % 3 < 3 := Nat.mod_lt _ (by decide)
    have hq : k / 3 < n := by omega
    have e1 := flat_get lfc 3 (fun _ => rfl) (lst n (fun k => if k = i then x else d k)) (k / 3) (k % 3) (by rw [lst_len]; exact hq) r0
    have e2 : (lst n (fun k => if k = i then x else d k))[k / 3]'(by rw [lst_len]; exact hq) = if k / 3 = i then x else d (k / 3) := by simp [lst]
    rw [e2, ← q0] at e1
    have e3 := flat_get lfc 3 (fun _ => rfl) (lst n d) (k / 3) (k % 3) (by rw [lst_len]; exact hq) r0
    have e4 : (lst n d)[k / 3]'(by rw [lst_len]; exact hq) = d (k / 3) := by simp [lst]
    rw [e4, ← q0] at e3
    have e5 : cs[k]? = (lfc (d (k / 3)))[k % 3]? := by
      rw [← e3, ← Array.getElem?_toList]
      show _ = (lfs (lst n d))[k]?
      rw [← h2, List.getElem?_take, if_pos hk]
    show _ = (lfs _)[k]?
    unfold lfs
    rw [e1, Array.getElem?_toList]
    simp only [Array.getElem?_setIfInBounds, Array.size_setIfInBounds]
    by_cases c : k / 3 = i
    · rw [if_pos c]
      have : k % 3 = 0 ∨ k % 3 = 1 ∨ k % 3 = 2 := by omega
      rcases this with r | r | r
      · rw [if_neg (by omega), if_neg (by omega), if_pos (by omega), if_pos (by omega), r]; rfl
      · rw [if_neg (by omega), if_pos (by omega), if_pos (by omega), r]; rfl
      · rw [if_pos (by omega), if_pos (by omega), r]; rfl
    · rw [if_neg c, if_neg (by omega), if_neg (by omega), if_neg (by omega), e5]
  · rw [List.getElem?_eq_none (by rw [List.length_take]; omega), List.getElem?_eq_none (by rw [lfs_len, lst_len]; omega)]
theorem Rw.drew {w : World} {g n : Nat} {d : Nat → Nat × Nat} (h : Rw w g n d) : Rw w.drew g n d := h.frame (Fr.refl w []).drew (by simp)
theorem Rw.drewN {w : World} {g n : Nat} {d : Nat → Nat × Nat} (h : Rw w g n d) (m : Nat) : Rw (w.drewN m) g n d := h.frame ((Fr.refl w []).drewN m) (by simp)
theorem Fr.cellAt {w w' : World} {F : List Nat} (h : Fr w w' F) {g o : Nat} {v : Value} (hg : g ∉ F) (hc : w.cell? ⟨g, o, none⟩ = some v) : w'.cell? ⟨g, o, none⟩ = some v :=
  (World.cell?_of_block (w := w) (h.block g (World.block_lt_of_cell? w _ hc) hg)).trans hc
/-- six cells turned: two elements exchanged -/
def six (w : World) (g i j : Nat) (x y : Nat × Nat) : World := (((((w.setCell ⟨g, i * 3, none⟩ (.int .i64 y.1)).setCell ⟨g, i * 3 + 1, none⟩ (.int .i64 y.2)).setCell ⟨g, i * 3 + 2, none⟩ (.slice none 0 0)).setCell ⟨g, j * 3, none⟩ (.int .i64 x.1)).setCell ⟨g, j * 3 + 1, none⟩ (.int .i64 x.2)).setCell ⟨g, j * 3 + 2, none⟩ (.slice none 0 0)
theorem Rw.swap {w : World} {g n : Nat} {d : Nat → Nat × Nat} (h : Rw w g n d) {i j : Nat} (hi : i < n) (hj : j < n) (hne : i ≠ j) {x y : Nat × Nat} (hx : x = d i) (hy : y = d j) : Rw (six w g i j x y) g n (sw d i j) := by
  have h1 := (h.put hi y).put hj x
  have e : (fun k => if k = j then x else if k = i then y else d k) = sw d i j := by
    funext q
    unfold sw
    rw [hx, hy]
    by_cases q1 : q = j
    · rw [if_pos q1, if_neg (by omega), if_pos q1]
    · rw [if_neg q1]
      by_cases q2 : q = i
      · rw [if_pos q2, if_pos q2]
      · rw [if_neg q2, if_neg q2, if_neg q1]
  rw [← e]
  exact h1
theorem Fr.six {w w' : World} {F : List Nat} (h : Fr w w' F) {g i j : Nat} {x y : Nat × Nat} (hg : g ∈ F) : Fr w (six w' g i j x y) F :=
  (((((h.setCell _ (.inl hg)).setCell _ (.inl hg)).setCell _ (.inl hg)).setCell _ (.inl hg)).setCell _ (.inl hg)).setCell _ (.inl hg)
theorem isNaN_any (w : World) (a : Int) : Calls Try.prog 107 #[.int .i64 a] w fun e w' => e = .returned (.bool false) ∧ w = w' := by
  have h : (a != a) = false := by simp
  go_enter Try.func107, Try.ntmps107
  go_wp2
  go_ret
  exact ⟨rfl, rfl⟩
def cmpv (a b : Int) : Int := if a < b then -1 else if b < a then 1 else 0
theorem compare_any (w : World) (a b : Int) : Calls Try.prog 103 #[.int .i64 a, .int .i64 b] w fun e w' => e = .returned (.int .i64 (cmpv a b)) ∧ w = w' := by
  by_cases h1 : a < b
  · have hc : Hd (cmpv a b = -1) := ⟨by unfold cmpv; rw [if_pos h1]⟩
    go_enter Try.func103, Try.ntmps103
    go_wp2_with ((with_reducible refine (isNaN_any _ _).mono ?_); rintro e w' ⟨rfl, rfl⟩)
    go_ret
    rw [hc.out]
    exact ⟨rfl, rfl⟩
  · by_cases h2 : b < a
    · have hc : Hd (cmpv a b = 1) := ⟨by unfold cmpv; rw [if_neg h1, if_pos h2]⟩
      go_enter Try.func103, Try.ntmps103
      go_wp2_with ((with_reducible refine (isNaN_any _ _).mono ?_); rintro e w' ⟨rfl, rfl⟩)
      go_ret
      rw [hc.out]
      exact ⟨rfl, rfl⟩
    · have hc : Hd (cmpv a b = 0) := ⟨by unfold cmpv; rw [if_neg h1, if_neg h2]⟩
      go_enter Try.func103, Try.ntmps103
      go_wp2_with ((with_reducible refine (isNaN_any _ _).mono ?_); rintro e w' ⟨rfl, rfl⟩)
      go_ret
      rw [hc.out]
      exact ⟨rfl, rfl⟩
/-- the comparison that leaves are sorted by -/
theorem less_any (w : World) (x y : Nat × Nat) :
    Calls Try.prog 102 #[.agg #[.int .i64 x.1, .int .i64 x.2, .slice none 0 0], .agg #[.int .i64 y.1, .int .i64 y.2, .slice none 0 0]] w fun e w' => e = .returned (.int .i64 (cmpv x.1 y.1)) ∧ Fr w w' [] := by
  go_enter Try.func102, Try.ntmps102
  go_wp2_with ((with_reducible refine (compare_any _ _ _).mono ?_); rintro e w' ⟨rfl, rfl⟩)
  go_ret
  exact ⟨rfl, ((Fr.refl _ _).alloc _).alloc _⟩
set_option maxHeartbeats 4000000 in
theorem swapRange_any (w : World) (g n c : Nat) (d : Nat → Nat × Nat) (a b k : Nat) (f : Value) (hR : Rw w g n d) (hn : n ≤ 1099511627776) (hnc : n ≤ c) (h1 : a + k ≤ b) (h2 : b + k ≤ n) :
    Calls Try.prog 111 #[.slice (some ⟨g, 0, none⟩) n c, .int .i64 (a : Nat), .int .i64 (b : Nat), .int .i64 (k : Nat), f] w fun e w' => e = .returned (.tuple #[]) ∧ Rw w' g n (swr d a b k) ∧ Fr w w' [g] := by
  have HR := Hd.mk hR
  clear hR
  go_enter Try.func111, Try.ntmps111
  go_wp2
  go_loopg [10] k (fun kq iv wr => ∃ i : Nat, iv = .int .i64 (i : Nat) ∧ i + kq = k ∧ Hd (Rw wr g n (swr d a b i)) ∧ Hd (Fr w wr [g]))
  case atStart => exact ⟨0, rfl, by omega, ⟨by rw [swr_zero]; exact HR.out⟩, ⟨Fr.refl _ _⟩⟩
  case round =>
    obtain ⟨i, rfl, hi, HRi, HF⟩ := hrel
    by_cases hik : i < k
    · have ca0 := HRi.out.cell (i := a + i) (j := 0) (by omega) (by decide)
      have ca1 := HRi.out.cell (i := a + i) (j := 1) (by omega) (by decide)
      have ca2 := HRi.out.cell (i := a + i) (j := 2) (by omega) (by decide)
      have cb0 := HRi.out.cell (i := b + i) (j := 0) (by omega) (by decide)
      have cb1 := HRi.out.cell (i := b + i) (j := 1) (by omega) (by decide)
      have cb2 := HRi.out.cell (i := b + i) (j := 2) (by omega) (by decide)
      obtain ⟨x, hx⟩ : ∃ x, x = swr d a b i (a + i) := ⟨_, rfl⟩
      obtain ⟨y, hy⟩ : ∃ y, y = swr d a b i (b + i) := ⟨_, rfl⟩
      rw [← hx] at ca0 ca1 ca2
      rw [← hy] at cb0 cb1 cb2
      have HX := Hd.mk hx
      have HY := Hd.mk hy
      clear hx hy
      have fr : ∀ o, wr.frozen? ⟨g, o, none⟩ = false := HRi.out.free
      simp only [lfc, List.getElem?_cons_zero, List.getElem?_cons_succ, Nat.add_zero] at ca0 ca1 ca2 cb0 cb1 cb2
      go_upto_region 3 with (fail)
      have n1 : (↑a + ↑i : Int).toNat = a + i := by omega
      have n2 : (↑b + ↑i : Int).toNat = b + i := by omega
      have n3 : IntKind.i64.wrap (↑a + ↑i) = ↑a + ↑i := IntWalk.i64_in _ (by omega)
      have n4 : IntKind.i64.wrap (↑b + ↑i) = ↑b + ↑i := IntWalk.i64_in _ (by omega)
      have n5 : (0 : Int) ≤ ↑a + ↑i := by omega
      have n6 : (0 : Int) ≤ ↑b + ↑i := by omega
      have n7 : (↑a + ↑i : Int) < ↑n := by omega
      have n8 : (↑b + ↑i : Int) < ↑n := by omega
      go_region
      have HP : Hd (Rw (six wr g (a + i) (b + i) x y).drew g n (swr d a b (i + 1))) := ⟨by
        rw [← swr_step d (a := a) (b := b) (i := i) (by omega)]
        exact (HRi.out.swap (by omega) (by omega) (by omega) HX.out HY.out).drew⟩
      have HF2 : Hd (Fr w (six wr g (a + i) (b + i) x y).drew [g]) := ⟨(Fr.six HF.out (by simp)).drew⟩
      clear n1 n2 n3 n4 n5 n6 n7 n8 ca0 ca1 ca2 cb0 cb1 cb2 fr
      unfold six at HP HF2
      go_wp2
      go_roundg (gk - 1)
      case measure => omega
      case rel => exact ⟨i + 1, by go_num, by omega, HP, HF2⟩
    · obtain rfl : i = k := by omega
      go_wp2
      go_end0
      exact ⟨rfl, HRi.out, HF.out⟩
end Go.Proofs.Ytofajcifjmhomaa.Sort
