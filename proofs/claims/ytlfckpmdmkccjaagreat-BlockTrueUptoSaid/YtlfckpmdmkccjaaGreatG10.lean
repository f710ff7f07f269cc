/- Texts of this claim, one behind the other: LzTok, BlkH, BlkP, BlkI. -/
import Derived.Test.YtlfckpmdmkccjaaGreatG01
import Derived.Test.YtlfckpmdmkccjaaGreatG09
import Derived.Deep.CutBlock
/- Tokens: right, bytes, Check, Size of the program and of the document. Conditions: at most 2^40 tokens. -/
set_option linter.unusedVariables false
set_option linter.unusedSimpArgs false
set_option maxRecDepth 100000
namespace Go.Proofs.YtlfckpmdmkccjaaGreat.Lz
open Go.RowKit Go.Proofs.YtlfckpmdmkccjaaGreat.Lib Go.Proofs.YtlfckpmdmkccjaaGreat.Num Go.Proofs.YtlfckpmdmkccjaaGreat.Bits

def tcell (t : Tok) : List Value := [.int .u8 t.lit, .int .i64 t.len, .int .i64 t.dist]
def tcells (l : List Tok) : List Value := l.flatMap tcell
theorem tcells_app (a b : List Tok) : tcells (a ++ b) = tcells a ++ tcells b := by simp [tcells]
theorem tcells_len (a : List Tok) : (tcells a).length = 3 * a.length := by
  induction a with
  | nil => rfl
  | cons x t ih => simp only [tcells, List.flatMap_cons, List.length_append] at ih ⊢; rw [ih]; simp [tcell]; omega
theorem tcells_one (a : List Tok) : ∀ u ∈ tcells a, u.oneCell' = true := by
  intro u hu
  simp only [tcells, List.mem_flatMap, tcell] at hu
  obtain ⟨r, _, h⟩ := hu
  simp at h
  rcases h with rfl | rfl | rfl <;> rfl
theorem sizeOf_take {l : List Tok} {j : Nat} (h : j < l.length) : sizeOf (l.take (j + 1)) = sizeOf (l.take j) + width l[j] := by
  rw [List.take_succ_eq_append_getElem h]; unfold sizeOf; rw [List.map_append, List.sum_append]; simp
theorem sizeOf_part (l : List Tok) (j : Nat) : sizeOf (l.take j) ≤ 258 * l.length := by
  have := sizeOf_le (l.take j)
  have : (l.take j).length ≤ l.length := by rw [List.length_take]; omega
  omega
theorem right_any (w : World) (t : Tok) (r : Bool) (hr : r = right t) : Calls Tryz.prog 91 #[.agg #[.int .u8 t.lit, .int .i64 t.len, .int .i64 t.dist]] w fun e w' => e = .returned (.bool r) ∧ Fr w w' [] := by
  obtain ⟨a, b, c⟩ := t
  simp only
  by_cases h0 : b = 0
  · subst h0
    by_cases h1 : c = 0
    · subst h1
      obtain rfl : r = true := hr
      go_enter Tryz.func91, Tryz.ntmps91
      go_wp2
      go_ret
      exact ⟨rfl, (Fr.refl _ _).alloc _⟩
    · have e1 : (c == 0) = false := by simpa using h1
      obtain rfl : r = false := by rw [hr]; exact decide_eq_false h1
      clear hr
      go_enter Tryz.func91, Tryz.ntmps91
      go_wp2
      go_ret
      exact ⟨rfl, (Fr.refl _ _).alloc _⟩
  · have e0 : (b == 0) = false := by simpa using h0
    have hr' : r = decide (3 ≤ b ∧ b ≤ 258 ∧ 1 ≤ c ∧ c ≤ 32768 ∧ a = 0) := by rw [hr]; unfold right; rw [if_neg h0]
    clear hr
    by_cases h1 : b < 3
    · obtain rfl : r = false := by rw [hr']; exact decide_eq_false (fun h => by have := h.1; omega)
      try clear hr'
      go_enter Tryz.func91, Tryz.ntmps91
      go_wp2
      go_ret
      exact ⟨rfl, (Fr.refl _ _).alloc _⟩
    by_cases h2 : 258 < b
    · obtain rfl : r = false := by rw [hr']; exact decide_eq_false (fun h => by have := h.2.1; omega)
      try clear hr'
      go_enter Tryz.func91, Tryz.ntmps91
      go_wp2
      go_ret
      exact ⟨rfl, (Fr.refl _ _).alloc _⟩
    by_cases h3 : c < 1
    · obtain rfl : r = false := by rw [hr']; exact decide_eq_false (fun h => by have := h.2.2.1; omega)
      try clear hr'
      go_enter Tryz.func91, Tryz.ntmps91
      go_wp2
      go_ret
      exact ⟨rfl, (Fr.refl _ _).alloc _⟩
    by_cases h4 : 32768 < c
    · obtain rfl : r = false := by rw [hr']; exact decide_eq_false (fun h => by have := h.2.2.2.1; omega)
      try clear hr'
      go_enter Tryz.func91, Tryz.ntmps91
      go_wp2
      go_ret
      exact ⟨rfl, (Fr.refl _ _).alloc _⟩
    by_cases h5 : a = 0
    · subst h5
      obtain rfl : r = true := by rw [hr']; exact decide_eq_true ⟨by omega, by omega, by omega, by omega, rfl⟩
      try clear hr'
      go_enter Tryz.func91, Tryz.ntmps91
      go_wp2
      go_ret
      exact ⟨rfl, (Fr.refl _ _).alloc _⟩
    · have e5 : (a == 0) = false := by simpa using h5
      obtain rfl : r = false := by rw [hr']; exact decide_eq_false (fun h => h5 h.2.2.2.2)
      try clear hr'
      go_enter Tryz.func91, Tryz.ntmps91
      go_wp2
      go_ret
      exact ⟨rfl, (Fr.refl _ _).alloc _⟩
theorem may_any (w : World) (t : Tok) (r : Bool) (hr : r = right t) : Calls Tryz.prog 55 #[.agg #[.int .u8 t.lit, .int .i64 t.len, .int .i64 t.dist]] w fun e w' => e = .returned (.bool r) ∧ Fr w w' [] := by
  obtain ⟨a, b, c⟩ := t
  simp only
  by_cases h0 : b = 0
  · subst h0
    by_cases h1 : c = 0
    · subst h1
      obtain rfl : r = true := hr
      go_enter Tryz.func55, Tryz.ntmps55
      go_wp2
      go_ret
      exact ⟨rfl, (Fr.refl _ _).alloc _⟩
    · have e1 : (c == 0) = false := by simpa using h1
      obtain rfl : r = false := by rw [hr]; exact decide_eq_false h1
      clear hr
      go_enter Tryz.func55, Tryz.ntmps55
      go_wp2
      go_ret
      exact ⟨rfl, (Fr.refl _ _).alloc _⟩
  · have e0 : (b == 0) = false := by simpa using h0
    have hr' : r = decide (3 ≤ b ∧ b ≤ 258 ∧ 1 ≤ c ∧ c ≤ 32768 ∧ a = 0) := by rw [hr]; unfold right; rw [if_neg h0]
    clear hr
    by_cases h1 : b < 3
    · obtain rfl : r = false := by rw [hr']; exact decide_eq_false (fun h => by have := h.1; omega)
      try clear hr'
      go_enter Tryz.func55, Tryz.ntmps55
      go_wp2
      go_ret
      exact ⟨rfl, (Fr.refl _ _).alloc _⟩
    by_cases h2 : 258 < b
    · obtain rfl : r = false := by rw [hr']; exact decide_eq_false (fun h => by have := h.2.1; omega)
      try clear hr'
      go_enter Tryz.func55, Tryz.ntmps55
      go_wp2
      go_ret
      exact ⟨rfl, (Fr.refl _ _).alloc _⟩
    by_cases h3 : c < 1
    · obtain rfl : r = false := by rw [hr']; exact decide_eq_false (fun h => by have := h.2.2.1; omega)
      try clear hr'
      go_enter Tryz.func55, Tryz.ntmps55
      go_wp2
      go_ret
      exact ⟨rfl, (Fr.refl _ _).alloc _⟩
    by_cases h4 : 32768 < c
    · obtain rfl : r = false := by rw [hr']; exact decide_eq_false (fun h => by have := h.2.2.2.1; omega)
      try clear hr'
      go_enter Tryz.func55, Tryz.ntmps55
      go_wp2
      go_ret
      exact ⟨rfl, (Fr.refl _ _).alloc _⟩
    by_cases h5 : a = 0
    · subst h5
      obtain rfl : r = true := by rw [hr']; exact decide_eq_true ⟨by omega, by omega, by omega, by omega, rfl⟩
      try clear hr'
      go_enter Tryz.func55, Tryz.ntmps55
      go_wp2
      go_ret
      exact ⟨rfl, (Fr.refl _ _).alloc _⟩
    · have e5 : (a == 0) = false := by simpa using h5
      obtain rfl : r = false := by rw [hr']; exact decide_eq_false (fun h => h5 h.2.2.2.2)
      try clear hr'
      go_enter Tryz.func55, Tryz.ntmps55
      go_wp2
      go_ret
      exact ⟨rfl, (Fr.refl _ _).alloc _⟩
theorem bytes_any (w : World) (t : Tok) : Calls Tryz.prog 56 #[.agg #[.int .u8 t.lit, .int .i64 t.len, .int .i64 t.dist]] w fun e w' => e = .returned (.int .i64 (width t : Nat)) ∧ Fr w w' [] := by
  obtain ⟨a, b, c⟩ := t
  simp only
  obtain ⟨r, hr⟩ : ∃ r, r = right ⟨a, b, c⟩ := ⟨_, rfl⟩
  have HR := Hd.mk hr
  obtain ⟨m, hm⟩ : ∃ m, m = width ⟨a, b, c⟩ := ⟨_, rfl⟩
  have hm' : m = if r then (if b = 0 then 1 else b.toNat) else 0 := by rw [hm, hr]; rfl
  rw [← hm]
  clear hr hm
  go_enter Tryz.func56, Tryz.ntmps56
  go_wp2_with (fail)
  refine (right_any _ ⟨a, b, c⟩ r HR.out).mono ?_
  rintro e w1 ⟨rfl, h1⟩
  have hb := h1.blk (blk_new w (.cells #[.int .u8 a, .int .i64 b, .int .i64 c] 84)) (by simp)
  have F1 := Hd.mk (((Fr.refl w []).alloc (.cells #[.int .u8 a, .int .i64 b, .int .i64 c] 84)).trans h1 (by simp))
  have c1 := blk_cell hb 1
  simp only [List.getElem?_toArray, List.getElem?_cons_zero, List.getElem?_cons_succ] at c1
  clear h1 hb
  cases r with
  | false =>
    obtain rfl : m = 0 := hm'
    go_wp2
    go_ret
    exact ⟨rfl, F1.out⟩
  | true =>
    by_cases h0 : b = 0
    · subst h0
      obtain rfl : m = 1 := hm'
      go_wp2
      go_ret
      exact ⟨rfl, F1.out⟩
    · have e0 : (b == 0) = false := by simpa using h0
      have hb3 : 0 ≤ b := by
        have := HR.out
        have := right_len this.symm
        simp only at this
        omega
      rw [if_pos rfl, if_neg h0] at hm'
      obtain rfl : b = (m : Int) := by omega
      clear hm' hb3
      go_wp2
      go_ret
      exact ⟨rfl, F1.out⟩
theorem width_any (w : World) (t : Tok) : Calls Tryz.prog 33 #[.agg #[.int .u8 t.lit, .int .i64 t.len, .int .i64 t.dist]] w fun e w' => e = .returned (.int .i64 (width t : Nat)) ∧ Fr w w' [] := by
  obtain ⟨a, b, c⟩ := t
  simp only
  obtain ⟨r, hr⟩ : ∃ r, r = right ⟨a, b, c⟩ := ⟨_, rfl⟩
  have HR := Hd.mk hr
  obtain ⟨m, hm⟩ : ∃ m, m = width ⟨a, b, c⟩ := ⟨_, rfl⟩
  have hm' : m = if r then (if b = 0 then 1 else b.toNat) else 0 := by rw [hm, hr]; rfl
  rw [← hm]
  clear hr hm
  go_enter Tryz.func33, Tryz.ntmps33
  go_wp2_with (fail)
  refine (may_any _ ⟨a, b, c⟩ r HR.out).mono ?_
  rintro e w1 ⟨rfl, h1⟩
  have hb := h1.blk (blk_new w (.cells #[.int .u8 a, .int .i64 b, .int .i64 c] 86)) (by simp)
  have F1 := Hd.mk (((Fr.refl w []).alloc (.cells #[.int .u8 a, .int .i64 b, .int .i64 c] 86)).trans h1 (by simp))
  have c1 := blk_cell hb 1
  simp only [List.getElem?_toArray, List.getElem?_cons_zero, List.getElem?_cons_succ] at c1
  clear h1 hb
  cases r with
  | false =>
    obtain rfl : m = 0 := hm'
    go_wp2
    go_ret
    exact ⟨rfl, F1.out⟩
  | true =>
    by_cases h0 : b = 0
    · subst h0
      obtain rfl : m = 1 := hm'
      go_wp2
      go_ret
      exact ⟨rfl, F1.out⟩
    · have e0 : (b == 0) = false := by simpa using h0
      have hb3 : 0 ≤ b := by
        have := HR.out
        have := right_len this.symm
        simp only at this
        omega
      rw [if_pos rfl, if_neg h0] at hm'
      obtain rfl : b = (m : Int) := by omega
      clear hm' hb3
      go_wp2
      go_ret
      exact ⟨rfl, F1.out⟩
theorem size_any (w : World) (A : Option Addr) (n c : Nat) (l : List Tok) (p : Option Nat) (hn : l.length = n) (hS : Sl w A (tcells l) p) (hb : n ≤ 1099511627776) :
    Calls Tryz.prog 37 #[.slice A n c] w fun e w' => e = .returned (.int .i64 (sizeOf l : Nat)) ∧ Fr w w' [] := by
  subst hn
  have HS := Hd.mk hS
  clear hS
  go_enter Tryz.func37, Tryz.ntmps37
  go_wp2
  go_loopg [3, 8] l.length (fun kq sv jv wr => ∃ (j m : Nat), sv = .int .i64 (m : Nat) ∧ jv = .int .i64 (j : Nat) ∧ j + kq = l.length ∧ Hd (m = sizeOf (l.take j)) ∧ Hd (Fr w wr []))
  case atStart => exact ⟨0, 0, rfl, rfl, by omega, ⟨by simp [sizeOf]⟩, ⟨Fr.refl _ _⟩⟩
  case round =>
    obtain ⟨j, m, rfl, rfl, hj, HM, HF⟩ := hrel
    by_cases h1 : j < l.length
    · obtain ⟨a, o1, rfl, _, ha⟩ := Sl.row (enc := tcell) (sz := 3) (fun _ => rfl) (HS.out.frame HF.out (by simp)) h1 (by decide)
      obtain ⟨t, ht⟩ : ∃ t, t = l[j] := ⟨_, rfl⟩
      rw [← ht] at ha
      have c0 := ha 0 (by decide)
      have c1 := ha 1 (by decide)
      have c2 := ha 2 (by decide)
      simp only [tcell, List.getElem?_cons_zero, List.getElem?_cons_succ, Nat.add_zero] at c0 c1 c2
      have HT := Hd.mk ht
      have hmb : m ≤ 283673999966208 := by rw [HM.out]; have := sizeOf_part l j; omega
      have hwt := width_le t
      clear ha ht
      go_wp2_with (fail)
      refine (bytes_any _ t).mono ?_
      rintro e w2 ⟨rfl, h2⟩
      have F2 := Hd.mk ((HF.out.alloc (.cells #[.int .u8 t.lit, .int .i64 t.len, .int .i64 t.dist] 84)).trans h2 (by simp))
      clear h2
      obtain ⟨wt, hwt'⟩ : ∃ wt, wt = width t := ⟨_, rfl⟩
      rw [← hwt'] at hwt ⊢
      have HW := Hd.mk hwt'
      clear hwt'
      go_wp2
      go_roundg (gk - 1)
      case measure => omega
      case rel => exact ⟨j + 1, m + wt, by go_num, by go_num, by omega, ⟨by rw [sizeOf_take h1, HM.out, HW.out, HT.out]⟩, F2⟩
    · obtain rfl : j = l.length := by omega
      have hm : Hd (m = sizeOf l) := ⟨by rw [HM.out, List.take_length]⟩
      go_wp2
      go_ret
      rw [← hm.out]
      exact ⟨rfl, HF.out⟩
theorem rsize_any (w : World) (A : Option Addr) (n c : Nat) (l : List Tok) (p : Option Nat) (hn : l.length = n) (hS : Sl w A (tcells l) p) (hb : n ≤ 1099511627776) :
    Calls Tryz.prog 11 #[.slice A n c] w fun e w' => e = .returned (.int .i64 (sizeOf l : Nat)) ∧ Fr w w' [] := by
  subst hn
  have HS := Hd.mk hS
  clear hS
  go_enter Tryz.func11, Tryz.ntmps11
  go_wp2
  go_loopg [3, 8] l.length (fun kq sv jv wr => ∃ (j m : Nat), sv = .int .i64 (m : Nat) ∧ jv = .int .i64 (j : Nat) ∧ j + kq = l.length ∧ Hd (m = sizeOf (l.take j)) ∧ Hd (Fr w wr []))
  case atStart => exact ⟨0, 0, rfl, rfl, by omega, ⟨by simp [sizeOf]⟩, ⟨Fr.refl _ _⟩⟩
  case round =>
    obtain ⟨j, m, rfl, rfl, hj, HM, HF⟩ := hrel
    by_cases h1 : j < l.length
    · obtain ⟨a, o1, rfl, _, ha⟩ := Sl.row (enc := tcell) (sz := 3) (fun _ => rfl) (HS.out.frame HF.out (by simp)) h1 (by decide)
      obtain ⟨t, ht⟩ : ∃ t, t = l[j] := ⟨_, rfl⟩
      rw [← ht] at ha
      have c0 := ha 0 (by decide)
      have c1 := ha 1 (by decide)
      have c2 := ha 2 (by decide)
      simp only [tcell, List.getElem?_cons_zero, List.getElem?_cons_succ, Nat.add_zero] at c0 c1 c2
      have HT := Hd.mk ht
      have hmb : m ≤ 283673999966208 := by rw [HM.out]; have := sizeOf_part l j; omega
      have hwt := width_le t
      clear ha ht
      go_wp2_with (fail)
      refine (width_any _ t).mono ?_
      rintro e w2 ⟨rfl, h2⟩
      have F2 := Hd.mk ((HF.out.alloc (.cells #[.int .u8 t.lit, .int .i64 t.len, .int .i64 t.dist] 86)).trans h2 (by simp))
      clear h2
      obtain ⟨wt, hwt'⟩ : ∃ wt, wt = width t := ⟨_, rfl⟩
      rw [← hwt'] at hwt ⊢
      have HW := Hd.mk hwt'
      clear hwt'
      go_wp2
      go_roundg (gk - 1)
      case measure => omega
      case rel => exact ⟨j + 1, m + wt, by go_num, by go_num, by omega, ⟨by rw [sizeOf_take h1, HM.out, HW.out, HT.out]⟩, F2⟩
    · obtain rfl : j = l.length := by omega
      have hm : Hd (m = sizeOf l) := ⟨by rw [HM.out, List.take_length]⟩
      go_wp2
      go_ret
      rw [← hm.out]
      exact ⟨rfl, HF.out⟩
set_option maxHeartbeats 4000000 in
theorem rcheck_any (w : World) (v : Int) (A : Option Addr) (n c : Nat) (l : List Tok) (p : Option Nat) (hn : l.length = n) (hS : Sl w A (tcells l) p) (hb : n ≤ 1099511627776) (pl : Nat) (er : Int) (hc : (pl, er) = check v l) :
    Calls Tryz.prog 36 #[.int .i64 v, .slice A n c] w fun e w' => e = .returned (.tuple #[.int .i64 (pl : Nat), .int .i64 er]) ∧ Fr w w' [] := by
  subst hn
  have HS := Hd.mk hS
  have HC := Hd.mk hc
  clear hS hc
  by_cases h0 : v < 1
  · have hc := HC.out
    unfold check at hc
    rw [if_pos (.inl h0)] at hc
    obtain ⟨rfl, rfl⟩ : pl = 0 ∧ er = 1 := by simpa using hc
    clear hc
    go_enter Tryz.func36, Tryz.ntmps36
    go_wp2
    go_ret2
    exact ⟨rfl, Fr.refl _ _⟩
  by_cases h00 : 32768 < v
  · have hc := HC.out
    unfold check at hc
    rw [if_pos (.inr h00)] at hc
    obtain ⟨rfl, rfl⟩ : pl = 0 ∧ er = 1 := by simpa using hc
    clear hc
    go_enter Tryz.func36, Tryz.ntmps36
    go_wp2
    go_ret2
    exact ⟨rfl, Fr.refl _ _⟩
  have HC2 : Hd ((pl, er) = checkF v l 0 0) := ⟨by have := HC.out; unfold check at this; rwa [if_neg (by omega)] at this⟩
  clear HC
  go_enter Tryz.func36, Tryz.ntmps36
  go_wp2
  go_loopg [6, 17] l.length (fun kq sv jv wr => ∃ (j m : Nat), sv = .int .i64 (m : Nat) ∧ jv = .int .i64 (j : Nat) ∧ j + kq = l.length ∧ Hd (m = sizeOf (l.take j)) ∧ Hd ((pl, er) = checkF v (l.drop j) j m) ∧ Hd (Fr w wr []))
  case atStart => exact ⟨0, 0, rfl, rfl, by omega, ⟨by simp [sizeOf]⟩, HC2, ⟨Fr.refl _ _⟩⟩
  case round =>
    obtain ⟨j, m, rfl, rfl, hj, HM, HK, HF⟩ := hrel
    by_cases h1 : j < l.length
    · obtain ⟨a, o1, rfl, _, ha⟩ := Sl.row (enc := tcell) (sz := 3) (fun _ => rfl) (HS.out.frame HF.out (by simp)) h1 (by decide)
      obtain ⟨t, ht⟩ : ∃ t, t = l[j] := ⟨_, rfl⟩
      rw [← ht] at ha
      have c0 := ha 0 (by decide)
      have c1 := ha 1 (by decide)
      have c2 := ha 2 (by decide)
      simp only [tcell, List.getElem?_cons_zero, List.getElem?_cons_succ, Nat.add_zero] at c0 c1 c2
      have HT := Hd.mk ht
      have hmb : m ≤ 283673999966208 := by rw [HM.out]; have := sizeOf_part l j; omega
      have hwt := width_le t
      have HK2 : Hd ((pl, er) = if right t = false then (j, 70) else if v < t.dist ∨ (m : Int) < t.dist then (j, 71) else checkF v (l.drop (j + 1)) (j + 1) (m + width t)) := ⟨by
        have := HK.out
        rw [List.drop_eq_getElem_cons h1, ← HT.out] at this
        exact this⟩
      obtain ⟨r, hr⟩ : ∃ r, r = right t := ⟨_, rfl⟩
      have HR := Hd.mk hr
      clear ha ht hr HK
      go_wp2_with (fail)
      refine (may_any _ t r HR.out).mono ?_
      rintro e w2 ⟨rfl, h2⟩
      have hb := h2.blk (blk_new wr (.cells #[.int .u8 t.lit, .int .i64 t.len, .int .i64 t.dist] 86)) (by simp)
      have F2 := Hd.mk ((HF.out.alloc (.cells #[.int .u8 t.lit, .int .i64 t.len, .int .i64 t.dist] 86)).trans h2 (by simp))
      have d0 := blk_cell hb 0
      have d1 := blk_cell hb 1
      have d2 := blk_cell hb 2
      simp only [List.getElem?_toArray, List.getElem?_cons_zero, List.getElem?_cons_succ] at d0 d1 d2
      clear h2 hb c0 c1 c2
      cases r with
      | false =>
        have hk := HK2.out
        rw [if_pos HR.out.symm] at hk
        obtain ⟨rfl, rfl⟩ : pl = j ∧ er = 70 := by simpa using hk
        clear hk
        go_wp2
        go_ret2
        exact ⟨rfl, F2.out⟩
      | true =>
        have HK3 : Hd ((pl, er) = if v < t.dist ∨ (m : Int) < t.dist then (j, 71) else checkF v (l.drop (j + 1)) (j + 1) (m + width t)) := ⟨by
          have := HK2.out
          rwa [if_neg (by rw [← HR.out]; simp)] at this⟩
        have hlen : t.len = 0 ∧ t.dist = 0 ∨ 0 < t.len := by
          have := right_len HR.out.symm
          omega
        obtain ⟨lt, ln, ds⟩ := t
        simp only at hlen HK3 d0 d1 d2
        by_cases hq : v < ds ∨ (m : Int) < ds
        · have hln : 0 < ln := by omega
          have hk := HK3.out
          rw [if_pos hq] at hk
          obtain ⟨rfl, rfl⟩ : pl = j ∧ er = 71 := by simpa using hk
          clear hk
          clear hlen
          by_cases hq1 : v < ds
          · go_wp2
            go_ret2
            exact ⟨rfl, F2.out⟩
          · have hq2 : (m : Int) < ds := by omega
            clear hq
            go_wp2
            go_ret2
            exact ⟨rfl, F2.out⟩
        · have hq1 : ¬ v < ds := fun h => hq (.inl h)
          have hq2 : ¬ (m : Int) < ds := fun h => hq (.inr h)
          have HK4 : Hd ((pl, er) = checkF v (l.drop (j + 1)) (j + 1) (m + width ⟨lt, ln, ds⟩)) := ⟨by
            have := HK3.out
            rwa [if_neg hq] at this⟩
          clear hq
          obtain ⟨wt, hwt'⟩ : ∃ wt, wt = width ⟨lt, ln, ds⟩ := ⟨_, rfl⟩
          rw [← hwt'] at hwt HK4
          have HW := Hd.mk hwt'
          clear hwt'
          rcases hlen with ⟨rfl, rfl⟩ | hln
          all_goals
            go_wp2_with (fail)
            refine (width_any _ ⟨lt, _, _⟩).mono ?_
            rintro e w3 ⟨rfl, h3⟩
            have F3 := Hd.mk (F2.out.trans h3 (by simp))
            clear h3
            rw [← HW.out]
            go_wp2
            go_roundg (gk - 1)
            case measure => omega
            case rel => exact ⟨j + 1, m + wt, by go_num, by go_num, by omega, ⟨by rw [sizeOf_take h1, HM.out, HW.out, HT.out]⟩, HK4, F3⟩
    · obtain rfl : j = l.length := by omega
      have hk := HK.out
      rw [List.drop_length] at hk
      obtain ⟨rfl, rfl⟩ : pl = 0 ∧ er = 0 := by simpa [checkF] using hk
      clear hk
      go_wp2
      go_ret2
      exact ⟨rfl, HF.out⟩
end Go.Proofs.YtlfckpmdmkccjaaGreat.Lz
/- Chapter 09: a token's signs. No condition. -/
set_option linter.unusedVariables false
set_option linter.unusedSimpArgs false
set_option maxRecDepth 100000
namespace Go.Proofs.YtlfckpmdmkccjaaGreat.Blk
open Go.RowKit Go.Proofs.YtlfckpmdmkccjaaGreat.Lib Go.Proofs.YtlfckpmdmkccjaaGreat.Ints Go.Proofs.YtlfckpmdmkccjaaGreat.Lz
/-- a symbol, more bits' number, how many they are -/
def sgA (t : Tok) : Int × Int × Int := if t.len = 0 then (t.lit, 0, 0) else ((symN lenT 257 3 258 t.len).1, (symN lenT 257 3 258 t.len).2.2.1, (symN lenT 257 3 258 t.len).2.1)
def sgB (t : Tok) : Int × Int × Int := if t.len = 0 then (0, 0, 0) else ((symN distT 0 1 32768 t.dist).1, (symN distT 0 1 32768 t.dist).2.2.1, (symN distT 0 1 32768 t.dist).2.1)
def sgV (x : Int × Int × Int) : Value := .agg #[.int .i64 x.1, .int .i64 x.2.1, .int .i64 x.2.2]
theorem signInfo : (Tryz.prog.info? 108).map (·.size) = some 3 := by kernel_rfl
theorem results_cct {fn : Func} {p q r : Tmp} (h : fn.results = #[.cell p 108, .cell q 108, .tmp r]) (tmps : Array Value) (w : World) (g k : Nat) (cs ds : Array Value)
    (hp : tmps.getD p undef = .pointer (some ⟨g, 0, none⟩)) (hg : w.heap[g]? = some (.cells cs 108 (0, 0))) (hq : tmps.getD q undef = .pointer (some ⟨k, 0, none⟩)) (hk : w.heap[k]? = some (.cells ds 108 (0, 0)))
    (hc : cs.size = 3) (hd : ds.size = 3) :
    (results fn tmps).run Tryz.prog w = .ok (.tuple #[.agg cs, .agg ds, tmps.getD r undef]) w := by
  have hp' : tmps[p]?.getD undef = .pointer (some ⟨g, 0, none⟩) := by simpa using hp
  have hq' : tmps[q]?.getD undef = .pointer (some ⟨k, 0, none⟩) := by simpa using hq
  simp [results, h, hp', hq', asAddr, run_loadVar_row w g 108 108 cs _ _ hg Tryz.underlying108 rfl (by rw [hc]; exact signInfo), run_loadVar_row w k 108 108 ds _ _ hk Tryz.underlying108 rfl (by rw [hd]; exact signInfo)]
set_option maxHeartbeats 2000000 in
theorem signs_any (w : World) (t : Tok) (hl : 0 ≤ t.lit ∧ t.lit ≤ 255) : Calls Tryz.prog 47 #[.agg #[.int .u8 t.lit, .int .i64 t.len, .int .i64 t.dist]] w fun e w' => e = .returned (.tuple #[sgV (sgA t), sgV (sgB t), .bool (decide (t.len ≠ 0))]) ∧ Fr w w' [] := by
  obtain ⟨a, b, c⟩ := t
  simp only at hl ⊢
  obtain ⟨hl0, hl1⟩ := hl
  by_cases h0 : b = 0
  · subst h0
    have e1 : Hd (sgA ⟨a, 0, c⟩ = (a, 0, 0) ∧ sgB ⟨a, 0, c⟩ = (0, 0, 0)) := ⟨rfl, rfl⟩
    go_enter Tryz.func47, Tryz.ntmps47
    go_wp2
    refine bodyPost_ret (results_cct rfl _ _ (w.heap.size + 1) (w.heap.size + 1 + 1) #[.int .i64 a, .int .i64 0, .int .i64 0] #[.int .i64 0, .int .i64 0, .int .i64 0] rfl (by first | exact blk_alloc (by simpa using blk_new (w.alloc _) _) _) rfl (by simpa using blk_new ((w.alloc _).alloc _) _) rfl rfl) rfl ?_
    rw [e1.out.1, e1.out.2]
    exact ⟨rfl, (((Fr.refl _ _).alloc _).alloc _).alloc _⟩
  · have e0 : (b == 0) = false := by simpa using h0
    obtain ⟨s, hs⟩ : ∃ s, s = symN lenT 257 3 258 b := ⟨_, rfl⟩
    obtain ⟨u, hu⟩ : ∃ u, u = symN distT 0 1 32768 c := ⟨_, rfl⟩
    have e1 : Hd (sgA ⟨a, b, c⟩ = (s.1, s.2.2.1, s.2.1) ∧ sgB ⟨a, b, c⟩ = (u.1, u.2.2.1, u.2.1)) := ⟨by unfold sgA; rw [if_neg h0, hs], by unfold sgB; rw [if_neg h0, hu]⟩
    have HS := Hd.mk hs
    have HU := Hd.mk hu
    clear hs hu
    go_enter Tryz.func47, Tryz.ntmps47
    go_wp2_with (fail)
    refine (lenSymbol_any _ b).mono ?_
    rintro e w1 ⟨rfl, h1⟩
    rw [← HS.out]
    have k0 := h1.blk (blk_alloc (blk_alloc (blk_new w _) _) _) (by simp)
    have k1 := h1.blk (g := w.heap.size + 1) (blk_alloc (by simpa using blk_new (w.alloc _) _) _) (by simp)
    have k2 := h1.blk (g := w.heap.size + 1 + 1) (by simpa using blk_new ((w.alloc _).alloc _) _) (by simp)
    have F1 := Hd.mk (((((Fr.refl w []).alloc _).alloc _).alloc _).trans h1 (by simp))
    clear h1
    generalize hg0 : w.heap.size = g at *
    have hgb : w.heap.size ≤ g := by omega
    clear hg0
    have K1 := Hd.mk k1
    have K2 := Hd.mk k2
    have c2 := blk_cell k0 2
    simp only [List.getElem?_toArray, List.getElem?_cons_zero, List.getElem?_cons_succ] at c2
    clear k0 k1 k2
    go_wp2_with (fail)
    refine (distSymbol_any _ c).mono ?_
    rintro e w2 ⟨rfl, h2⟩
    rw [← HU.out]
    have L1 := Hd.mk (h2.blk K1.out (by simp))
    have L2 := Hd.mk (h2.blk K2.out (by simp))
    have F2 := Hd.mk (F1.out.trans h2 (by simp))
    clear h2 K1 K2 F1 c2
    go_wp2_with (first
      | (refine wpList_store_row rfl 108 _ _ rfl (g + 1) #[.int .i64 s.1, .int .i64 s.2.2.1, .int .i64 s.2.1] rfl rfl 108 _ (by exact L1.out) (by kernel_rfl) (by kernel_rfl) (by kernel_rfl) ?_)
      | (refine wpList_store_row rfl 108 _ _ rfl (g + 1 + 1) #[.int .i64 u.1, .int .i64 u.2.2.1, .int .i64 u.2.1] rfl rfl 108 #[.int .i64 0, .int .i64 0, .int .i64 0] (by exact (setRow_other w2 (g + 1) (g + 1 + 1) _ (by omega)).trans L2.out) (by kernel_rfl) (by kernel_rfl) (by kernel_rfl) ?_))
    have B1 := (setRow_other (w2.setRow (g + 1) #[.int .i64 s.1, .int .i64 s.2.2.1, .int .i64 s.2.1]) (g + 1 + 1) (g + 1) #[.int .i64 u.1, .int .i64 u.2.2.1, .int .i64 u.2.1] (by omega)).trans (setRow_heap _ _ _ _ _ _ L1.out)
    have B2 : ((w2.setRow (g + 1) #[.int .i64 s.1, .int .i64 s.2.2.1, .int .i64 s.2.1]).setRow (g + 1 + 1) #[.int .i64 u.1, .int .i64 u.2.2.1, .int .i64 u.2.1]).heap[g + 1 + 1]? = some (.cells #[.int .i64 u.1, .int .i64 u.2.2.1, .int .i64 u.2.1] 108 (0, 0)) := setRow_heap _ _ _ _ _ _ ((setRow_other w2 (g + 1) (g + 1 + 1) _ (by omega)).trans L2.out)
    refine bodyPost_ret (results_cct rfl _ _ (g + 1) (g + 1 + 1) _ _ rfl B1 rfl B2 rfl rfl) rfl ?_
    rw [e1.out.1, e1.out.2]
    exact ⟨by simp [sgV, h0], (Code.Fr.setRow (Code.Fr.setRow F2.out _ (.inr (by omega))) _ (.inr (by omega)))⟩
end Go.Proofs.YtlfckpmdmkccjaaGreat.Blk
/- Chapter 09, plain: what a token's signs are within, what the tokens of a block cost. No condition. -/
set_option linter.unusedVariables false
set_option linter.unusedSimpArgs false
set_option maxRecDepth 100000
namespace Go.Proofs.YtlfckpmdmkccjaaGreat.Blk
open Go.RowKit Go.Proofs.YtlfckpmdmkccjaaGreat.Lib Go.Proofs.YtlfckpmdmkccjaaGreat.Ints Go.Proofs.YtlfckpmdmkccjaaGreat.Lz
def LitB (l : List Tok) : Prop := ∀ t ∈ l, 0 ≤ t.lit ∧ t.lit ≤ 255
theorem plc_fit (l : List (Int × Int)) (v : Int) (h0 : (l.getD 0 (0, 0)).1 ≤ v) : ∀ n, 0 < n → (∀ i, i + 1 < n → (l.getD (i + 1) (0, 0)).1 ≤ (l.getD i (0, 0)).1 + 2 ^ (l.getD i (0, 0)).2.toNat) → v < (l.getD (n - 1) (0, 0)).1 + 2 ^ (l.getD (n - 1) (0, 0)).2.toNat →
    (l.getD (plc l v n) (0, 0)).1 ≤ v ∧ v < (l.getD (plc l v n) (0, 0)).1 + 2 ^ (l.getD (plc l v n) (0, 0)).2.toNat
  | 0, h, _, _ => absurd h (Nat.lt_irrefl 0)
  | n + 1, _, hs, hv => by
    rw [plc]
    by_cases h : (l.getD n (0, 0)).1 ≤ v
    · rw [if_pos h]; exact ⟨h, hv⟩
    · rw [if_neg h]
      cases n with
      | zero => exact absurd h0 h
      | succ n =>
        refine plc_fit l v h0 (n + 1) (by omega) (fun i hi => hs i (by omega)) ?_
        have := hs n (by omega)
        simp only [Nat.add_sub_cancel]
        omega
theorem lenT_steps : ∀ i, i + 1 < 29 → (lenT.getD (i + 1) (0, 0)).1 ≤ (lenT.getD i (0, 0)).1 + 2 ^ (lenT.getD i (0, 0)).2.toNat := by
  intro i hi
  have : ∀ i, i < 28 → (lenT.getD (i + 1) (0, 0)).1 ≤ (lenT.getD i (0, 0)).1 + 2 ^ (lenT.getD i (0, 0)).2.toNat := by decide
  exact this i (by omega)
theorem distT_steps : ∀ i, i + 1 < 30 → (distT.getD (i + 1) (0, 0)).1 ≤ (distT.getD i (0, 0)).1 + 2 ^ (distT.getD i (0, 0)).2.toNat := by
  intro i hi
  have : ∀ i, i < 29 → (distT.getD (i + 1) (0, 0)).1 ≤ (distT.getD i (0, 0)).1 + 2 ^ (distT.getD i (0, 0)).2.toNat := by decide
  exact this i (by omega)
theorem lenT_fit {v : Int} (h0 : 3 ≤ v) (h1 : v ≤ 258) : (lenT.getD (plc lenT v 29) (0, 0)).1 ≤ v ∧ v < (lenT.getD (plc lenT v 29) (0, 0)).1 + 2 ^ (lenT.getD (plc lenT v 29) (0, 0)).2.toNat :=
  plc_fit lenT v (by show (3 : Int) ≤ v; exact h0) 29 (by omega) lenT_steps (by show v < (258 : Int) + 2 ^ 0; omega)
theorem distT_fit {v : Int} (h0 : 1 ≤ v) (h1 : v ≤ 32768) : (distT.getD (plc distT v 30) (0, 0)).1 ≤ v ∧ v < (distT.getD (plc distT v 30) (0, 0)).1 + 2 ^ (distT.getD (plc distT v 30) (0, 0)).2.toNat :=
  plc_fit distT v (by show (1 : Int) ≤ v; exact h0) 30 (by omega) distT_steps (by show v < (24577 : Int) + 2 ^ 13; omega)
/-- a symbol, more bits' number and how many they are -/
structure Sg (x : Int × Int × Int) (lo hi mb : Int) : Prop where
  sym : lo ≤ x.1 ∧ x.1 < hi
  bits : 0 ≤ x.2.2 ∧ x.2.2 ≤ mb
  val : 0 ≤ x.2.1 ∧ x.2.1 < 2 ^ x.2.2.toNat
theorem symN_len {v : Int} (h0 : 3 ≤ v) (h1 : v ≤ 258) : Sg ((symN lenT 257 3 258 v).1, (symN lenT 257 3 258 v).2.2.1, (symN lenT 257 3 258 v).2.1) 257 286 5 := by
  unfold symN
  rw [if_neg (by omega)]
  have hp := plc_lt lenT v 29 (by decide)
  have hf := lenT_fit h0 h1
  have hb := lenT_le _ hp
  refine ⟨⟨?_, ?_⟩, ⟨?_, ?_⟩, ?_, ?_⟩ <;> simp only [show lenT.length = 29 from rfl] <;> omega
theorem symN_dist {v : Int} (h0 : 1 ≤ v) (h1 : v ≤ 32768) : Sg ((symN distT 0 1 32768 v).1, (symN distT 0 1 32768 v).2.2.1, (symN distT 0 1 32768 v).2.1) 0 30 13 := by
  unfold symN
  rw [if_neg (by omega)]
  have hp := plc_lt distT v 30 (by decide)
  have hf := distT_fit h0 h1
  have hb := distT_le _ hp
  refine ⟨⟨?_, ?_⟩, ⟨?_, ?_⟩, ?_, ?_⟩ <;> simp only [show distT.length = 30 from rfl] <;> omega
theorem sgA_fit {t : Tok} (hr : right t = true) (hl : 0 ≤ t.lit ∧ t.lit ≤ 255) : Sg (sgA t) 0 286 5 ∧ (sgA t).1 ≠ 256 := by
  unfold sgA
  rcases right_len hr with ⟨h, _⟩ | ⟨h1, h2, _⟩
  · rw [if_pos h]
    refine ⟨⟨⟨hl.1, ?_⟩, ⟨Int.le_refl _, ?_⟩, Int.le_refl _, ?_⟩, ?_⟩
    all_goals (simp only; first | omega | decide)
  · rw [if_neg (by omega)]
    have h := symN_len h1 h2
    exact ⟨⟨⟨by have := h.sym; omega, h.sym.2⟩, h.bits, h.val⟩, by have := h.sym; simp only at this ⊢; omega⟩
theorem sgB_fit {t : Tok} (hr : right t = true) : Sg (sgB t) 0 30 13 := by
  unfold sgB
  rcases right_len hr with ⟨h, _⟩ | ⟨h1, h2, h3, h4, _⟩
  · rw [if_pos h]
    refine ⟨⟨Int.le_refl _, ?_⟩, ⟨Int.le_refl _, ?_⟩, Int.le_refl _, ?_⟩
    all_goals (simp only; first | omega | decide)
  · rw [if_neg (by omega)]
    exact symN_dist h3 h4
/-! ### what codes cost -/
def tkBits (lit dist : List Int) (t : Tok) : Int :=
  lit.getD (sgA t).1.toNat 0 + (sgA t).2.2 + if t.len = 0 then 0 else dist.getD (sgB t).1.toNat 0 + (sgB t).2.2
def codedF (lit dist : List Int) : List Tok → Int
  | [] => 0
  | t :: l => tkBits lit dist t + codedF lit dist l
def codedN (lit dist : List Int) (l : List Tok) : Int := lit.getD 256 0 + codedF lit dist l
def Lens15 (l : List Int) : Prop := ∀ x ∈ l, 0 ≤ x ∧ x ≤ 15
theorem lens15_get {l : List Int} (h : Lens15 l) (i : Nat) : 0 ≤ l.getD i 0 ∧ l.getD i 0 ≤ 15 := by
  rw [List.getD_eq_getElem?_getD]
  cases hx : l[i]? with
  | none => simp
  | some x => exact h x (List.mem_of_getElem? hx)
theorem tkBits_le {lit dist : List Int} (ha : Lens15 lit) (hb : Lens15 dist) {t : Tok} (hr : right t = true) (hl : 0 ≤ t.lit ∧ t.lit ≤ 255) : 0 ≤ tkBits lit dist t ∧ tkBits lit dist t ≤ 48 := by
  have h1 := lens15_get ha (sgA t).1.toNat
  have h2 := lens15_get hb (sgB t).1.toNat
  have h3 := (sgA_fit hr hl).1.bits
  have h4 := (sgB_fit hr).bits
  unfold tkBits
  split <;> omega
theorem codedF_app (lit dist : List Int) : ∀ a b, codedF lit dist (a ++ b) = codedF lit dist a + codedF lit dist b
  | [], b => by simp [codedF]
  | t :: a, b => by simp only [List.cons_append, codedF, codedF_app lit dist a b]; omega
theorem codedF_take {lit dist : List Int} {l : List Tok} {j : Nat} (h : j < l.length) : codedF lit dist (l.take (j + 1)) = codedF lit dist (l.take j) + tkBits lit dist l[j] := by
  rw [List.take_succ_eq_append_getElem h, codedF_app]
  simp [codedF]
theorem codedF_le {lit dist : List Int} (ha : Lens15 lit) (hb : Lens15 dist) : ∀ (l : List Tok), (∀ t ∈ l, right t = true) → LitB l → 0 ≤ codedF lit dist l ∧ codedF lit dist l ≤ 48 * (l.length : Nat)
  | [], _, _ => by simp [codedF]
  | t :: l, hr, hl => by
    have h1 := tkBits_le ha hb (hr t (by simp)) (hl t (by simp))
    have h2 := codedF_le ha hb l (fun u hu => hr u (by simp [hu])) (fun u hu => hl u (by simp [hu]))
    simp only [codedF, List.length_cons]
    omega
/-- why tokens may not stand in a block -/
def mayB (l : List Tok) : Int := if 65536 < l.length then 90 else if l.all right then 0 else 91
theorem mayB_zero {l : List Tok} (h : mayB l = 0) : l.length ≤ 65536 ∧ ∀ t ∈ l, right t = true := by
  unfold mayB at h
  split at h
  · cases h
  · split at h
    · rename_i h1 h2
      exact ⟨by omega, by simpa using h2⟩
    · cases h
theorem width_zero {t : Tok} : width t = 0 ↔ right t = false := by
  unfold width
  cases h : right t
  · simp
  · simp only [if_true]
    have := right_len h
    split <;> simp <;> omega
theorem sizeOf_one (t : Tok) : Lz.sizeOf [t] = width t := by simp [Lz.sizeOf]
theorem plainLit15 : Lens15 plainLit := by
  intro x hx
  simp only [plainLit, fill, List.mem_map, List.mem_range] at hx
  obtain ⟨i, hi, rfl⟩ := hx
  rw [if_pos hi]
  unfold litF
  split
  · omega
  · split
    · omega
    · split <;> omega
theorem plainDist15 : Lens15 plainDist := by
  intro x hx
  simp only [plainDist, fill, List.mem_map, List.mem_range] at hx
  obtain ⟨i, hi, rfl⟩ := hx
  rw [if_pos hi]
  omega
end Go.Proofs.YtlfckpmdmkccjaaGreat.Blk
/- Chapter 09: may these tokens stand in a block; what they cost by codes. No condition. -/
set_option linter.unusedVariables false
set_option linter.unusedSimpArgs false
set_option maxRecDepth 100000
namespace Go.Proofs.YtlfckpmdmkccjaaGreat.Blk
open Go.RowKit Go.Proofs.YtlfckpmdmkccjaaGreat.Lib Go.Proofs.YtlfckpmdmkccjaaGreat.Ints Go.Proofs.YtlfckpmdmkccjaaGreat.Lz
theorem all_take {l : List Tok} {j : Nat} (h : j < l.length) : (l.take (j + 1)).all right = ((l.take j).all right && right l[j]) := by
  rw [List.take_succ_eq_append_getElem h, List.all_append]; simp
theorem all_not {l : List Tok} {j : Nat} (h : j < l.length) (hr : right l[j] = false) : l.all right = false := by
  rw [Bool.eq_false_iff]
  intro ha
  have := List.all_eq_true.1 ha l[j] (List.getElem_mem h)
  rw [hr] at this
  cases this
theorem sl_new2 (w : World) (o : Obj) (cs : Array Value) (t : TypeId) : Sl ((w.alloc o).alloc (.cells cs t)) (some ⟨w.heap.size + 1, 0, none⟩) cs.toList (some (w.heap.size + 1)) := sl_of_blk (t := t) (fr := (0, 0)) (by simpa using blk_new (w.alloc o) (.cells cs t))
set_option maxHeartbeats 2000000 in
theorem may_any (w : World) (A : Option Addr) (n c : Nat) (l : List Tok) (p : Option Nat) (hn : l.length = n) (hS : Sl w A (tcells l) p) (hb : n ≤ 1099511627776) (r : Int) (hr : r = mayB l) :
    Calls Tryz.prog 46 #[.slice A n c] w fun e w' => e = .returned (.int .i64 r) ∧ Fr w w' [] := by
  subst hn
  have HS := Hd.mk hS
  have HR := Hd.mk hr
  clear hS hr
  go_enter Tryz.func46, Tryz.ntmps46
  by_cases hlong : 65536 < l.length
  · obtain rfl : r = 90 := by rw [HR.out]; unfold mayB; rw [if_pos hlong]
    go_wp2
    go_ret
    exact ⟨rfl, Fr.refl _ _⟩
  · have hmr : Hd (r = if l.all right then 0 else 91) := ⟨by rw [HR.out]; unfold mayB; rw [if_neg hlong]⟩
    have hl2 : l.length ≤ 65536 := by omega
    go_wp2
    go_loopg [10] l.length (fun kq jv wr => ∃ j : Nat, jv = .int .i64 (j : Nat) ∧ j + kq = l.length ∧ Hd ((l.take j).all right = true) ∧ Hd (Fr w wr []))
    case atStart => exact ⟨0, rfl, by omega, ⟨rfl⟩, ⟨Fr.refl _ _⟩⟩
    case round =>
      obtain ⟨j, rfl, hj, HA, HF⟩ := hrel
      by_cases h1 : j < l.length
      · obtain ⟨a, o1, rfl, _, ha⟩ := Sl.row (enc := tcell) (sz := 3) (fun _ => rfl) (HS.out.frame HF.out (by simp)) h1 (by decide)
        obtain ⟨t, ht⟩ : ∃ t, t = l[j] := ⟨_, rfl⟩
        rw [← ht] at ha
        have c0 := ha 0 (by decide)
        have c1 := ha 1 (by decide)
        have c2 := ha 2 (by decide)
        simp only [tcell, List.getElem?_cons_zero, List.getElem?_cons_succ, Nat.add_zero] at c0 c1 c2
        have HT := Hd.mk ht
        clear ha ht
        obtain ⟨x, hx⟩ : ∃ x, x = width t := ⟨_, rfl⟩
        have HX := Hd.mk hx
        clear hx
        go_wp2_with (fail)
        refine (size_any _ _ 1 1 [t] _ rfl (by exact sl_new2 wr _ _ _) (by omega)).mono ?_
        rintro e w2 ⟨rfl, h2⟩
        rw [sizeOf_one, ← HX.out]
        have F2 := Hd.mk (((HF.out.alloc _).alloc _).trans h2 (by simp))
        clear h2
        by_cases hx0 : x = 0
        · subst hx0
          have : Hd (r = 91) := ⟨by rw [hmr.out, all_not h1 (by rw [← HT.out]; exact width_zero.1 HX.out.symm)]; rfl⟩
          obtain rfl := this.out
          go_wp2
          go_ret
          exact ⟨rfl, F2.out⟩
        · have hx1 : ((x : Int) == 0) = false := by simp; omega
          have hrt : right t = true := by
            cases h : right t with
            | true => rfl
            | false => exact absurd (HX.out.trans (width_zero.2 h)) hx0
          go_wp2
          go_roundg (gk - 1)
          case measure => omega
          case rel => exact ⟨j + 1, by go_num, by omega, ⟨by rw [all_take h1, HA.out, ← HT.out, hrt]; rfl⟩, F2⟩
      · obtain rfl : j = l.length := by omega
        have : Hd (r = 0) := ⟨by rw [hmr.out]; rw [List.take_length] at HA; rw [HA.out]; rfl⟩
        obtain rfl := this.out
        go_wp2
        go_ret
        exact ⟨rfl, HF.out⟩
end Go.Proofs.YtlfckpmdmkccjaaGreat.Blk
