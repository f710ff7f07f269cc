/- Tokens: right, bytes, Check, Size of the program and of the document. Conditions: at most 2^40 tokens. -/
import Derived.Test.YtlfckpmdmkccjaaLzPlain
import Derived.Test.YtlfckpmdmkccjaaU8
import Derived.Deep.CutBlock
set_option linter.unusedVariables false
set_option linter.unusedSimpArgs false
set_option maxRecDepth 100000
namespace Go.Proofs.Ytlfckpmdmkccjaa.Lz
open Go.RowKit Go.Proofs.Ytlfckpmdmkccjaa.Lib Go.Proofs.Ytlfckpmdmkccjaa.Num Go.Proofs.Ytlfckpmdmkccjaa.Bits

def tcell (t : Tok) : List Value := [.int .u8 t.lit, .int .i64 t.len, .int .i64 t.dist]
def tcells (l : List Tok) : List Value := l.flatMap tcell
theorem tcells_app (a b : List Tok) : tcells (a ++ b) = tcells a ++ tcells b := by simp [tcells]
theorem tcells_len (a : List Tok) : (tcells a).length = 3 * a.length := by
  induction a with
  | nil => rfl
  | cons x t ih => simp only [tcells, List.flatMap_cons, List.length_append] at ih ⊢; rw [ih]; simp [tcell]; omega
theorem tcells_one (a : List Tok) : ∀ u ∈ tcells a, u.oneCell' = true := by
  intro u hu
  simp only [tcells, List.mem_flatMap, tcell] at hu
  obtain ⟨r, _, h⟩ := hu
  simp at h
  rcases h with rfl | rfl | rfl <;> rfl
theorem sizeOf_take {l : List Tok} {j : Nat} (h : j < l.length) : sizeOf (l.take (j + 1)) = sizeOf (l.take j) + width l[j] := by
  rw [List.take_succ_eq_append_getElem h]; unfold sizeOf; rw [List.map_append, List.sum_append]; simp
theorem sizeOf_part (l : List Tok) (j : Nat) : sizeOf (l.take j) ≤ 258 * l.length := by
  have := sizeOf_le (l.take j)
  have : (l.take j).length ≤ l.length := by rw [List.length_take]; omega
  omega
theorem right_any (w : World) (t : Tok) (r : Bool) (hr : r = right t) : Calls Try.prog 62 #[.agg #[.int .u8 t.lit, .int .i64 t.len, .int .i64 t.dist]] w fun e w' => e = .returned (.bool r) ∧ Fr w w' [] := by
  obtain ⟨a, b, c⟩ := t
  simp only
  by_cases h0 : b = 0
  · subst h0
    by_cases h1 : c = 0
    · subst h1
      obtain rfl : r = true := hr
      go_enter Try.func62, Try.ntmps62
      go_wp2
      go_ret
      exact ⟨rfl, (Fr.refl _ _).alloc _⟩
    · have e1 : (c == 0) = false := by simpa using h1
      obtain rfl : r = false := by rw [hr]; exact decide_eq_false h1
      clear hr
      go_enter Try.func62, Try.ntmps62
      go_wp2
      go_ret
      exact ⟨rfl, (Fr.refl _ _).alloc _⟩
  · have e0 : (b == 0) = false := by simpa using h0
    have hr' : r = decide (3 ≤ b ∧ b ≤ 258 ∧ 1 ≤ c ∧ c ≤ 32768 ∧ a = 0) := by rw [hr]; unfold right; rw [if_neg h0]
    clear hr
    by_cases h1 : b < 3
    · obtain rfl : r = false := by rw [hr']; exact decide_eq_false (fun h => by have := h.1; omega)
      try clear hr'
      go_enter Try.func62, Try.ntmps62
      go_wp2
      go_ret
      exact ⟨rfl, (Fr.refl _ _).alloc _⟩
    by_cases h2 : 258 < b
    · obtain rfl : r = false := by rw [hr']; exact decide_eq_false (fun h => by have := h.2.1; omega)
      try clear hr'
      go_enter Try.func62, Try.ntmps62
      go_wp2
      go_ret
      exact ⟨rfl, (Fr.refl _ _).alloc _⟩
    by_cases h3 : c < 1
    · obtain rfl : r = false := by rw [hr']; exact decide_eq_false (fun h => by have := h.2.2.1; omega)
      try clear hr'
      go_enter Try.func62, Try.ntmps62
      go_wp2
      go_ret
      exact ⟨rfl, (Fr.refl _ _).alloc _⟩
    by_cases h4 : 32768 < c
    · obtain rfl : r = false := by rw [hr']; exact decide_eq_false (fun h => by have := h.2.2.2.1; omega)
      try clear hr'
      go_enter Try.func62, Try.ntmps62
      go_wp2
      go_ret
      exact ⟨rfl, (Fr.refl _ _).alloc _⟩
    by_cases h5 : a = 0
    · subst h5
      obtain rfl : r = true := by rw [hr']; exact decide_eq_true ⟨by omega, by omega, by omega, by omega, rfl⟩
      try clear hr'
      go_enter Try.func62, Try.ntmps62
      go_wp2
      go_ret
      exact ⟨rfl, (Fr.refl _ _).alloc _⟩
    · have e5 : (a == 0) = false := by simpa using h5
      obtain rfl : r = false := by rw [hr']; exact decide_eq_false (fun h => h5 h.2.2.2.2)
      try clear hr'
      go_enter Try.func62, Try.ntmps62
      go_wp2
      go_ret
      exact ⟨rfl, (Fr.refl _ _).alloc _⟩
theorem may_any (w : World) (t : Tok) (r : Bool) (hr : r = right t) : Calls Try.prog 45 #[.agg #[.int .u8 t.lit, .int .i64 t.len, .int .i64 t.dist]] w fun e w' => e = .returned (.bool r) ∧ Fr w w' [] := by
  obtain ⟨a, b, c⟩ := t
  simp only
  by_cases h0 : b = 0
  · subst h0
    by_cases h1 : c = 0
    · subst h1
      obtain rfl : r = true := hr
      go_enter Try.func45, Try.ntmps45
      go_wp2
      go_ret
      exact ⟨rfl, (Fr.refl _ _).alloc _⟩
    · have e1 : (c == 0) = false := by simpa using h1
      obtain rfl : r = false := by rw [hr]; exact decide_eq_false h1
      clear hr
      go_enter Try.func45, Try.ntmps45
      go_wp2
      go_ret
      exact ⟨rfl, (Fr.refl _ _).alloc _⟩
  · have e0 : (b == 0) = false := by simpa using h0
    have hr' : r = decide (3 ≤ b ∧ b ≤ 258 ∧ 1 ≤ c ∧ c ≤ 32768 ∧ a = 0) := by rw [hr]; unfold right; rw [if_neg h0]
    clear hr
    by_cases h1 : b < 3
    · obtain rfl : r = false := by rw [hr']; exact decide_eq_false (fun h => by have := h.1; omega)
      try clear hr'
      go_enter Try.func45, Try.ntmps45
      go_wp2
      go_ret
      exact ⟨rfl, (Fr.refl _ _).alloc _⟩
    by_cases h2 : 258 < b
    · obtain rfl : r = false := by rw [hr']; exact decide_eq_false (fun h => by have := h.2.1; omega)
      try clear hr'
      go_enter Try.func45, Try.ntmps45
      go_wp2
      go_ret
      exact ⟨rfl, (Fr.refl _ _).alloc _⟩
    by_cases h3 : c < 1
    · obtain rfl : r = false := by rw [hr']; exact decide_eq_false (fun h => by have := h.2.2.1; omega)
      try clear hr'
      go_enter Try.func45, Try.ntmps45
      go_wp2
      go_ret
      exact ⟨rfl, (Fr.refl _ _).alloc _⟩
    by_cases h4 : 32768 < c
    · obtain rfl : r = false := by rw [hr']; exact decide_eq_false (fun h => by have := h.2.2.2.1; omega)
      try clear hr'
      go_enter Try.func45, Try.ntmps45
      go_wp2
      go_ret
      exact ⟨rfl, (Fr.refl _ _).alloc _⟩
    by_cases h5 : a = 0
    · subst h5
      obtain rfl : r = true := by rw [hr']; exact decide_eq_true ⟨by omega, by omega, by omega, by omega, rfl⟩
      try clear hr'
      go_enter Try.func45, Try.ntmps45
      go_wp2
      go_ret
      exact ⟨rfl, (Fr.refl _ _).alloc _⟩
    · have e5 : (a == 0) = false := by simpa using h5
      obtain rfl : r = false := by rw [hr']; exact decide_eq_false (fun h => h5 h.2.2.2.2)
      try clear hr'
      go_enter Try.func45, Try.ntmps45
      go_wp2
      go_ret
      exact ⟨rfl, (Fr.refl _ _).alloc _⟩
theorem bytes_any (w : World) (t : Tok) : Calls Try.prog 50 #[.agg #[.int .u8 t.lit, .int .i64 t.len, .int .i64 t.dist]] w fun e w' => e = .returned (.int .i64 (width t : Nat)) ∧ Fr w w' [] := by
  obtain ⟨a, b, c⟩ := t
  simp only
  obtain ⟨r, hr⟩ : ∃ r, r = right ⟨a, b, c⟩ := ⟨_, rfl⟩
  have HR := Hd.mk hr
  obtain ⟨m, hm⟩ : ∃ m, m = width ⟨a, b, c⟩ := ⟨_, rfl⟩
  have hm' : m = if r then (if b = 0 then 1 else b.toNat) else 0 := by rw [hm, hr]; rfl
  rw [← hm]
  clear hr hm
  go_enter Try.func50, Try.ntmps50
  go_wp2_with (fail)
  refine (right_any _ ⟨a, b, c⟩ r HR.out).mono ?_
  rintro e w1 ⟨rfl, h1⟩
  have hb := h1.blk (blk_new w (.cells #[.int .u8 a, .int .i64 b, .int .i64 c] 58)) (by simp)
  have F1 := Hd.mk (((Fr.refl w []).alloc (.cells #[.int .u8 a, .int .i64 b, .int .i64 c] 58)).trans h1 (by simp))
  have c1 := blk_cell hb 1
  simp only [List.getElem?_toArray, List.getElem?_cons_zero, List.getElem?_cons_succ] at c1
  clear h1 hb
  cases r with
  | false =>
    obtain rfl : m = 0 := hm'
    go_wp2
    go_ret
    exact ⟨rfl, F1.out⟩
  | true =>
    by_cases h0 : b = 0
    · subst h0
      obtain rfl : m = 1 := hm'
      go_wp2
      go_ret
      exact ⟨rfl, F1.out⟩
    · have e0 : (b == 0) = false := by simpa using h0
      have hb3 : 0 ≤ b := by
        have := HR.out
        have := right_len this.symm
        simp only at this
        omega
      rw [if_pos rfl, if_neg h0] at hm'
      obtain rfl : b = (m : Int) := by omega
      clear hm' hb3
      go_wp2
      go_ret
      exact ⟨rfl, F1.out⟩
theorem size_any (w : World) (A : Option Addr) (n c : Nat) (l : List Tok) (p : Option Nat) (hn : l.length = n) (hS : Sl w A (tcells l) p) (hb : n ≤ 1099511627776) :
    Calls Try.prog 37 #[.slice A n c] w fun e w' => e = .returned (.int .i64 (sizeOf l : Nat)) ∧ Fr w w' [] := by
  subst hn
  have HS := Hd.mk hS
  clear hS
  go_enter Try.func37, Try.ntmps37
  go_wp2
  go_loopg [3, 8] l.length (fun kq sv jv wr => ∃ (j m : Nat), sv = .int .i64 (m : Nat) ∧ jv = .int .i64 (j : Nat) ∧ j + kq = l.length ∧ Hd (m = sizeOf (l.take j)) ∧ Hd (Fr w wr []))
  case atStart => exact ⟨0, 0, rfl, rfl, by omega, ⟨by simp [sizeOf]⟩, ⟨Fr.refl _ _⟩⟩
  case round =>
    obtain ⟨j, m, rfl, rfl, hj, HM, HF⟩ := hrel
    by_cases h1 : j < l.length
    · obtain ⟨a, o1, rfl, _, ha⟩ := Sl.row (enc := tcell) (sz := 3) (fun _ => rfl) (HS.out.frame HF.out (by simp)) h1 (by decide)
      obtain ⟨t, ht⟩ : ∃ t, t = l[j] := ⟨_, rfl⟩
      rw [← ht] at ha
      have c0 := ha 0 (by decide)
      have c1 := ha 1 (by decide)
      have c2 := ha 2 (by decide)
      simp only [tcell, List.getElem?_cons_zero, List.getElem?_cons_succ, Nat.add_zero] at c0 c1 c2
      have HT := Hd.mk ht
      have hmb : m ≤ 283673999966208 := by rw [HM.out]; have := sizeOf_part l j; omega
      have hwt := width_le t
      clear ha ht
      go_wp2_with (fail)
      refine (bytes_any _ t).mono ?_
      rintro e w2 ⟨rfl, h2⟩
      have F2 := Hd.mk ((HF.out.alloc (.cells #[.int .u8 t.lit, .int .i64 t.len, .int .i64 t.dist] 58)).trans h2 (by simp))
      clear h2
      obtain ⟨wt, hwt'⟩ : ∃ wt, wt = width t := ⟨_, rfl⟩
      rw [← hwt'] at hwt ⊢
      have HW := Hd.mk hwt'
      clear hwt'
      go_wp2
      go_roundg (gk - 1)
      case measure => omega
      case rel => exact ⟨j + 1, m + wt, by go_num, by go_num, by omega, ⟨by rw [sizeOf_take h1, HM.out, HW.out, HT.out]⟩, F2⟩
    · obtain rfl : j = l.length := by omega
      have hm : Hd (m = sizeOf l) := ⟨by rw [HM.out, List.take_length]⟩
      go_wp2
      go_ret
      rw [← hm.out]
      exact ⟨rfl, HF.out⟩
end Go.Proofs.Ytlfckpmdmkccjaa.Lz
