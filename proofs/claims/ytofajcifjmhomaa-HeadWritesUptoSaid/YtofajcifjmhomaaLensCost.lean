/- LensCosts: the cost of any lists, on both sides. Conditions: none but what memory bounds. -/
import Derived.Test.YtofajcifjmhomaaInts
set_option linter.unusedVariables false
set_option linter.unusedSimpArgs false
set_option maxRecDepth 100000
namespace Go.Proofs.Ytofajcifjmhomaa.Lens
open Go.RowKit Go.Proofs.Ytofajcifjmhomaa.Lib Go.Proofs.Ytofajcifjmhomaa.Ints

/-- is there one that is out of bounds? -/
def out (hi : Int) (xs : List Int) : Bool := xs.any fun x => decide (x < 0 ∨ hi < x)
theorem out_true {hi : Int} {xs : List Int} {j : Nat} (h : j < xs.length) (hx : xs[j] < 0 ∨ hi < xs[j]) : out hi xs = true := by
  simp only [out, List.any_eq_true, decide_eq_true_eq]
  exact ⟨_, List.getElem_mem h, hx⟩
theorem out_false {hi : Int} {xs : List Int} (h : ∀ i, (hi' : i < xs.length) → 0 ≤ xs[i] ∧ xs[i] ≤ hi) : out hi xs = false := by
  rw [Bool.eq_false_iff]
  intro hc
  simp only [out, List.any_eq_true, decide_eq_true_eq] at hc
  obtain ⟨x, hx, h1⟩ := hc
  obtain ⟨i, hi', rfl⟩ := List.getElem_of_mem hx
  have := h i hi'
  omega
theorem of_out {hi : Int} {xs : List Int} (h : out hi xs = false) {j : Nat} (hj : j < xs.length) : 0 ≤ xs[j] ∧ xs[j] ≤ hi := by
  by_cases hx : xs[j] < 0 ∨ hi < xs[j]
  · rw [out_true hj hx] at h; cases h
  · omega
def cn (fs : List Int) : Int := if 288 < fs.length then 40 else if out 1099511627776 fs then 42 else 0
def dot (fs ls : List Int) : Nat → Int
  | 0 => 0
  | j + 1 => dot fs ls j + fs.getD j 0 * ls.getD j 0
def costN (fs ls : List Int) : Int × Int := if fs.length ≠ ls.length then (0, 1) else if cn fs ≠ 0 then (0, cn fs) else if out 15 ls then (0, 41) else (dot fs ls ls.length, 0)
theorem cn_zero {fs : List Int} (h : cn fs = 0) : fs.length ≤ 288 ∧ out 1099511627776 fs = false := by
  unfold cn at h
  split at h
  · cases h
  · split at h
    · cases h
    · rename_i h1 h2; exact ⟨by omega, by cases e : out 1099511627776 fs <;> simp_all⟩
theorem counts_any (w : World) (A : Option Addr) (n c : Nat) (xs : List Int) (p : Option Nat) (hn : xs.length = n) (hS : Sl w A (i64s xs) p) (hn1 : n ≤ 4611686018427387904) :
    Calls Try.prog 89 #[.slice A n c] w fun e w' => e = .returned (.int .i64 (cn xs)) ∧ w = w' := by
  subst hn
  have HS := Hd.mk hS
  clear hS
  by_cases hbig : 288 < xs.length
  · have hc : Hd (cn xs = 40) := ⟨by unfold cn; rw [if_pos hbig]⟩
    go_enter Try.func89, Try.ntmps89
    go_wp2
    go_ret
    exact ⟨by rw [hc.out]; rfl, rfl⟩
  · go_enter Try.func89, Try.ntmps89
    go_wp2
    go_loopg [10] xs.length (fun kq jv wr => ∃ j : Nat, jv = .int .i64 (j : Nat) ∧ j + kq = xs.length ∧ wr = w ∧ Hd (∀ i, i < j → (h : i < xs.length) → 0 ≤ xs[i] ∧ xs[i] ≤ 1099511627776))
    case atStart => exact ⟨0, rfl, by omega, rfl, ⟨fun i h => absurd h (Nat.not_lt_zero _)⟩⟩
    case round =>
      obtain ⟨j, rfl, hj, rfl, HA⟩ := hrel
      by_cases h1 : j < xs.length
      · obtain ⟨a, o1, rfl, _, ha⟩ := HS.out (by simp [i64s]; omega)
        obtain ⟨x, hx⟩ : ∃ x, x = xs[j] := ⟨_, rfl⟩
        have ca := (ha j (by simp [i64s]; omega)).trans (by rw [i64s_get, List.getElem?_eq_getElem (by omega), ← hx])
        have HX := Hd.mk hx
        clear ha hx
        by_cases h2 : x < 0
        · have hc : Hd (cn xs = 42) := ⟨by unfold cn; rw [if_neg hbig, if_pos (out_true h1 (by rw [← HX.out]; exact .inl h2))]⟩
          go_wp2
          go_ret
          exact ⟨by rw [hc.out]; rfl, rfl⟩
        · by_cases h3 : 1099511627776 < x
          · have hc : Hd (cn xs = 42) := ⟨by unfold cn; rw [if_neg hbig, if_pos (out_true h1 (by rw [← HX.out]; exact .inr h3))]⟩
            go_wp2
            go_ret
            exact ⟨by rw [hc.out]; rfl, rfl⟩
          · go_wp2
            go_roundg (gk - 1)
            case measure => omega
            case rel => exact ⟨j + 1, by go_num, by omega, rfl, ⟨fun i hi h => by
              by_cases e : i = j
              · subst e; rw [← HX.out]; omega
              · exact HA.out i (by omega) h⟩⟩
      · go_wp2
        go_ret
        have hc : cn xs = 0 := by unfold cn; rw [if_neg hbig, out_false (fun i hi => HA.out i (by omega) hi)]; rfl
        exact ⟨by rw [hc]; rfl, rfl⟩
theorem wrong_any (w : World) (A : Option Addr) (n c : Nat) (xs : List Int) (p : Option Nat) (hn : xs.length = n) (hS : Sl w A (i64s xs) p) (hn1 : n ≤ 4611686018427387904) :
    Calls Try.prog 76 #[.slice A n c] w fun e w' => e = .returned (.int .i64 (cn xs)) ∧ w = w' := by
  subst hn
  have HS := Hd.mk hS
  clear hS
  by_cases hbig : 288 < xs.length
  · have hc : Hd (cn xs = 40) := ⟨by unfold cn; rw [if_pos hbig]⟩
    go_enter Try.func76, Try.ntmps76
    go_wp2
    go_ret
    exact ⟨by rw [hc.out]; rfl, rfl⟩
  · go_enter Try.func76, Try.ntmps76
    go_wp2
    go_loopg [3] xs.length (fun kq jv wr => ∃ j : Nat, jv = .int .i64 (j : Nat) ∧ j + kq = xs.length ∧ wr = w ∧ Hd (∀ i, i < j → (h : i < xs.length) → 0 ≤ xs[i] ∧ xs[i] ≤ 1099511627776))
    case atStart => exact ⟨0, rfl, by omega, rfl, ⟨fun i h => absurd h (Nat.not_lt_zero _)⟩⟩
    case round =>
      obtain ⟨j, rfl, hj, rfl, HA⟩ := hrel
      by_cases h1 : j < xs.length
      · obtain ⟨a, o1, rfl, _, ha⟩ := HS.out (by simp [i64s]; omega)
        obtain ⟨x, hx⟩ : ∃ x, x = xs[j] := ⟨_, rfl⟩
        have ca := (ha j (by simp [i64s]; omega)).trans (by rw [i64s_get, List.getElem?_eq_getElem (by omega), ← hx])
        have HX := Hd.mk hx
        clear ha hx
        by_cases h2 : x < 0
        · have hc : Hd (cn xs = 42) := ⟨by unfold cn; rw [if_neg hbig, if_pos (out_true h1 (by rw [← HX.out]; exact .inl h2))]⟩
          go_wp2
          go_ret
          exact ⟨by rw [hc.out]; rfl, rfl⟩
        · by_cases h3 : 1099511627776 < x
          · have hc : Hd (cn xs = 42) := ⟨by unfold cn; rw [if_neg hbig, if_pos (out_true h1 (by rw [← HX.out]; exact .inr h3))]⟩
            go_wp2
            go_ret
            exact ⟨by rw [hc.out]; rfl, rfl⟩
          · go_wp2
            go_roundg (gk - 1)
            case measure => omega
            case rel => exact ⟨j + 1, by go_num, by omega, rfl, ⟨fun i hi h => by
              by_cases e : i = j
              · subst e; rw [← HX.out]; omega
              · exact HA.out i (by omega) h⟩⟩
      · go_wp2
        go_ret
        have hc : cn xs = 0 := by unfold cn; rw [if_neg hbig, out_false (fun i hi => HA.out i (by omega) hi)]; rfl
        exact ⟨by rw [hc]; rfl, rfl⟩
theorem dot_le {fs ls : List Int} (h1 : ∀ i, (h : i < fs.length) → 0 ≤ fs[i] ∧ fs[i] ≤ 1099511627776) {j : Nat} (h2 : ∀ i, i < j → (h : i < ls.length) → 0 ≤ ls[i] ∧ ls[i] ≤ 15) (hj : j ≤ ls.length) (hl : fs.length = ls.length) :
    0 ≤ dot fs ls j ∧ dot fs ls j ≤ 16492674416640 * j := by
  induction j with
  | zero => simp [dot]
  | succ j ih =>
    have a := ih (fun i hi h => h2 i (by omega) h) (by omega)
    have b := h1 j (by omega)
    have c := h2 j (by omega) (by omega)
    simp only [dot, List.getD_eq_getElem?_getD, List.getElem?_eq_getElem (show j < fs.length by omega), List.getElem?_eq_getElem (show j < ls.length by omega), Option.getD_some]
    have d := Int.mul_nonneg b.1 c.1
    have e : fs[j] * ls[j] ≤ 1099511627776 * 15 := Int.mul_le_mul b.2 c.2 c.1 (by omega)
    constructor
    · omega
    · rw [Int.natCast_add]; omega
end Go.Proofs.Ytofajcifjmhomaa.Lens
