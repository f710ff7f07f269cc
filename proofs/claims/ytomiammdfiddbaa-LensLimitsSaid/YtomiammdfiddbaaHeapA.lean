/- container/heap over a row of numbers (chapter 04): the row and its five methods. Conditions: at most 2^40 numbers. -/
import Derived.Test.YtomiammdfiddbaaLensCost
import Derived.Test.YtomiammdfiddbaaHeapP
import Derived.Handy
set_option linter.unusedVariables false
set_option linter.unusedSimpArgs false
set_option maxRecDepth 100000
namespace Go.Proofs.Ytomiammdfiddbaa.Heap
open Go.RowKit Go.Proofs.Ytomiammdfiddbaa.Lib Go.Proofs.Ytomiammdfiddbaa.Ints Go.Proofs.Ytomiammdfiddbaa.Heaps
open Go.Proofs.Ytomiammdfiddbaa.Sorts (lst lst_len lst_get sw sw_perm)

/-- the row of numbers -/
def Rn (w : World) (g n c : Nat) (d : Nat → Int) : Prop := w.ownsRow 0 3 1 (.slice (some ⟨g, 0, none⟩) n c) n (i64s (lst n d))
theorem Rn.block {w : World} {g n c : Nat} {d : Nat → Int} (h : Rn w g n c d) : ∃ cs : Array Value, w.heap[g]? = some (.cells cs 3 (0, 0)) ∧ n ≤ c ∧ c ≤ maxLen ∧ cs.size = c ∧ ∀ i, i < n → cs[i]? = some (.int .i64 (d i)) := by
  rcases h.2 with ⟨h', _⟩ | ⟨g', cap, cur, h', hb, hh, hnc, hcm, hcs, ht⟩
  · cases h'
  · injection h' with h1 h2 h3
    injection h1 with h1
    injection h1 with h1
    subst h1 h3
    refine ⟨cur, hh, hnc, hcm, by simpa using hcs, fun i hi => ?_⟩
    have := congrArg (·[i]?) ht
    simp only [Nat.mul_one, List.getElem?_take, if_pos hi, Array.getElem?_toList, i64s_get, lst_get hi, Option.map_some] at this
    exact this
theorem Rn.mk {w : World} {g n c : Nat} {d : Nat → Int} {cs : Array Value} (h1 : w.heap[g]? = some (.cells cs 3 (0, 0))) (h2 : n ≤ c) (h3 : c ≤ maxLen) (h4 : cs.size = c) (h5 : ∀ i, i < n → cs[i]? = some (.int .i64 (d i))) : Rn w g n c d := by
  refine ⟨by simp [i64s_length, lst_len], .inr ⟨g, c, cs, rfl, Nat.zero_le _, h1, h2, h3, by simpa using h4, ?_⟩⟩
  apply List.ext_getElem?
  intro k
  by_cases hk : k < n
  · rw [List.getElem?_take, if_pos (by omega), Array.getElem?_toList, h5 k hk, i64s_get, lst_get hk]; rfl
  · rw [List.getElem?_eq_none (by rw [List.length_take]; omega), List.getElem?_eq_none (by rw [i64s_length, lst_len]; omega)]
theorem Rn.cell {w : World} {g n c : Nat} {d : Nat → Int} (h : Rn w g n c d) {i : Nat} (hi : i < n) : w.cell? ⟨g, i, none⟩ = some (.int .i64 (d i)) := by
  obtain ⟨cs, h1, _, _, _, h5⟩ := h.block
  rw [blk_cell h1]; exact h5 i hi
theorem Rn.free {w : World} {g n c : Nat} {d : Nat → Int} (h : Rn w g n c d) (o : Nat) : w.frozen? ⟨g, o, none⟩ = false := by
  obtain ⟨cs, h1, _⟩ := h.block
  exact blk_frozen h1 o
theorem Rn.put {w : World} {g n c : Nat} {d : Nat → Int} (h : Rn w g n c d) {i : Nat} (hi : i < n) (x : Int) : Rn (w.setCell ⟨g, i, none⟩ (.int .i64 x)) g n c (fun k => if k = i then x else d k) := by
  obtain ⟨cs, h1, h2, h3, h4, h5⟩ := h.block
  refine Rn.mk (blk_set h1 i _) h2 h3 (by simpa using h4) (fun k hk => ?_)
  rw [Array.getElem?_setIfInBounds]
  by_cases e : i = k
  · rw [if_pos e, if_pos (by omega), if_pos e.symm]
  · rw [if_neg e, if_neg (fun q => e q.symm)]; exact h5 k hk
theorem Rn.frame {w w' : World} {g n c : Nat} {d : Nat → Int} (h : Rn w g n c d) {F : List Nat} (hf : Fr w w' F) (hg : g ∉ F) : Rn w' g n c d :=
  own_frame h hf (fun k hk => by simp [Value.ownBlock] at hk; subst hk; exact hg)
theorem Rn.drew {w : World} {g n c : Nat} {d : Nat → Int} (h : Rn w g n c d) : Rn w.drew g n c d := h
theorem Rn.swap {w : World} {g n c : Nat} {d : Nat → Int} (h : Rn w g n c d) {i j : Nat} (hi : i < n) (hj : j < n) {x y : Int} (hx : x = d i) (hy : y = d j) :
    Rn ((w.setCell ⟨g, i, none⟩ (.int .i64 y)).setCell ⟨g, j, none⟩ (.int .i64 x)) g n c (sw d i j) := by
  have h1 := (h.put hi y).put hj x
  have e : (fun k => if k = j then x else if k = i then y else d k) = sw d i j := by
    funext q
    unfold sw
    rw [hx, hy]
    by_cases q1 : q = i
    · by_cases q2 : q = j
      · rw [if_pos q2, if_pos q1, ← q1, ← q2]
      · rw [if_neg q2, if_pos q1, if_pos q1]
    · by_cases q2 : q = j
      · rw [if_pos q2, if_neg q1, if_pos q2]
      · rw [if_neg q2, if_neg q1, if_neg q1, if_neg q2]
  rw [← e]
  exact h1
theorem Rn.congr {w : World} {g n c : Nat} {d e : Nat → Int} (h : Rn w g n c d) (he : ∀ i, i < n → d i = e i) : Rn w g n c e := by
  unfold Rn at h ⊢
  rw [← lst_congr he]; exact h
/-- the heap: the variable and its row -/
structure HR (w : World) (p g n c : Nat) (d : Nat → Int) : Prop where
  ptr : w.heap[p]? = some (.cells #[.slice (some ⟨g, 0, none⟩) n c] 47 (0, 0))
  row : Rn w g n c d
theorem HR.ne {w : World} {p g n c : Nat} {d : Nat → Int} (h : HR w p g n c d) : p ≠ g := by
  obtain ⟨cs, h1, _⟩ := h.row.block
  exact blk_ne h.ptr h1 (by decide)
theorem HR.frame {w w' : World} {p g n c : Nat} {d : Nat → Int} (h : HR w p g n c d) {F : List Nat} (hf : Fr w w' F) (hp : p ∉ F) (hg : g ∉ F) : HR w' p g n c d :=
  ⟨hf.blk h.ptr hp, h.row.frame hf hg⟩
theorem HR.drew {w : World} {p g n c : Nat} {d : Nat → Int} (h : HR w p g n c d) : HR w.drew p g n c d := ⟨h.ptr, h.row.drew⟩
theorem HR.cell {w : World} {p g n c : Nat} {d : Nat → Int} (h : HR w p g n c d) : w.cell? ⟨p, 0, none⟩ = some (.slice (some ⟨g, 0, none⟩) n c) := by
  rw [blk_cell h.ptr]; rfl
theorem HR.free {w : World} {p g n c : Nat} {d : Nat → Int} (h : HR w p g n c d) (o : Nat) : w.frozen? ⟨p, o, none⟩ = false := blk_frozen h.ptr o

/-! ### which function a call through the interface leads to -/
theorem mVal (f : Nat) (name : String) (w : World) (p : Nat) (v : Value) (hp : w.cell? ⟨p, 0, none⟩ = some v)
    (e : ∀ w, Sem.run Try.prog (method 198 46 (.pointer (some ⟨p, 0, none⟩)) name) w = Sem.run Try.prog (load ⟨p, 0, none⟩ >>= fun v => pure (f, v)) w) :
    (method 198 46 (.pointer (some ⟨p, 0, none⟩)) name).run Try.prog w = .ok (f, v) w := by
  have h : (load ⟨p, 0, none⟩).run Try.prog w = .ok v w := by
    unfold load Sem.run
    rw [hp]
    rfl
  rw [e w, Sem.run_bind, h]
  rfl
theorem mLen (w : World) (p : Nat) (v : Value) (hp : w.cell? ⟨p, 0, none⟩ = some v) :
    (method 198 46 (.pointer (some ⟨p, 0, none⟩)) "Len").run Try.prog w = .ok (67, v) w := mVal _ _ w p v hp fun w => by kernel_rfl
theorem mLess (w : World) (p : Nat) (v : Value) (hp : w.cell? ⟨p, 0, none⟩ = some v) :
    (method 198 46 (.pointer (some ⟨p, 0, none⟩)) "Less").run Try.prog w = .ok (68, v) w := mVal _ _ w p v hp fun w => by kernel_rfl
theorem mSwap (w : World) (p : Nat) (v : Value) (hp : w.cell? ⟨p, 0, none⟩ = some v) :
    (method 198 46 (.pointer (some ⟨p, 0, none⟩)) "Swap").run Try.prog w = .ok (71, v) w := mVal _ _ w p v hp fun w => by kernel_rfl
theorem mPush (w : World) (p : Nat) : (method 198 46 (.pointer (some ⟨p, 0, none⟩)) "Push").run Try.prog w = .ok (70, .pointer (some ⟨p, 0, none⟩)) w := by kernel_rfl
theorem mPop (w : World) (p : Nat) : (method 198 46 (.pointer (some ⟨p, 0, none⟩)) "Pop").run Try.prog w = .ok (69, .pointer (some ⟨p, 0, none⟩)) w := by kernel_rfl

/-! ### the five methods -/
theorem len_any (w : World) (A : Option Addr) (n c : Nat) : Calls Try.prog 67 #[.slice A n c] w fun e w' => e = .returned (.int .i64 (n : Nat)) ∧ w = w' := by
  go_enter Try.func67, Try.ntmps67
  go_wp2
  go_ret
  exact ⟨rfl, rfl⟩
theorem less_any (w : World) (g n c : Nat) (d : Nat → Int) (i j : Nat) (hR : Rn w g n c d) (hn : n ≤ 1099511627776) (hi : i < n) (hj : j < n) :
    Calls Try.prog 68 #[.slice (some ⟨g, 0, none⟩) n c, .int .i64 (i : Nat), .int .i64 (j : Nat)] w fun e w' => e = .returned (.bool (decide (d i < d j))) ∧ Fr w w' [] := by
  have ca := hR.cell hi
  have cb := hR.cell hj
  generalize d i = x at ca ⊢
  generalize d j = y at cb ⊢
  clear hR
  go_enter Try.func68, Try.ntmps68
  go_upto_region 1 with (fail)
  go_region
  go_wp2
  go_ret
  exact ⟨rfl, (Fr.refl _ _).drew⟩
theorem swap_any (w : World) (g n c : Nat) (d : Nat → Int) (i j : Nat) (hR : Rn w g n c d) (hn : n ≤ 1099511627776) (hi : i < n) (hj : j < n) :
    Calls Try.prog 71 #[.slice (some ⟨g, 0, none⟩) n c, .int .i64 (i : Nat), .int .i64 (j : Nat)] w fun e w' => e = .returned (.tuple #[]) ∧ Rn w' g n c (sw d i j) ∧ Fr w w' [g] := by
  have ca := hR.cell hi
  have cb := hR.cell hj
  obtain ⟨x, hx⟩ : ∃ x, x = d i := ⟨_, rfl⟩
  obtain ⟨y, hy⟩ : ∃ y, y = d j := ⟨_, rfl⟩
  rw [← hx] at ca
  rw [← hy] at cb
  have fr : ∀ o, w.frozen? ⟨g, o, none⟩ = false := hR.free
  have cj : (w.setCell ⟨g, i, none⟩ (.int .i64 y)).cell? ⟨g, j, none⟩ = some (.int .i64 y) := by
    have h := (hR.put hi y).cell hj
    rw [h]
    by_cases e : j = i
    · rw [if_pos e]
    · rw [if_neg e, ← hy]
  have HX := Hd.mk hx
  have HY := Hd.mk hy
  have HRR := Hd.mk hR
  clear hR hx hy
  go_enter Try.func71, Try.ntmps71
  go_upto_region 0 with (fail)
  go_region
  have HP : Hd (Rn (((w.setCell ⟨g, i, none⟩ (.int .i64 y)).setCell ⟨g, j, none⟩ (.int .i64 x))).drew g n c (sw d i j)) := ⟨(HRR.out.swap hi hj HX.out HY.out).drew⟩
  have HF : Hd (Fr w (((w.setCell ⟨g, i, none⟩ (.int .i64 y)).setCell ⟨g, j, none⟩ (.int .i64 x))).drew [g]) := ⟨(((Fr.refl w [g]).setCell _ (.inl (by simp))).setCell _ (.inl (by simp))).drew⟩
  go_wp2
  go_end0
  exact ⟨rfl, HP.out, HF.out⟩
end Go.Proofs.Ytomiammdfiddbaa.Heap
