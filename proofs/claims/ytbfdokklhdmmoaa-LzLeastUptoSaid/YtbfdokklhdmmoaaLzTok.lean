/- Tokens: right, bytes, Check, Size of the program and of the document. Conditions: at most 2^40 tokens. -/
import Derived.Test.YtbfdokklhdmmoaaLzPlain
import Derived.Test.YtbfdokklhdmmoaaU8
import Derived.Deep.CutBlock
set_option linter.unusedVariables false
set_option linter.unusedSimpArgs false
set_option maxRecDepth 100000
namespace Go.Proofs.Ytbfdokklhdmmoaa.Lz
open Go.RowKit Go.Proofs.Ytbfdokklhdmmoaa.Lib Go.Proofs.Ytbfdokklhdmmoaa.Num Go.Proofs.Ytbfdokklhdmmoaa.Bits

def tcell (t : Tok) : List Value := [.int .u8 t.lit, .int .i64 t.len, .int .i64 t.dist]
def tcells (l : List Tok) : List Value := l.flatMap tcell
theorem tcells_app (a b : List Tok) : tcells (a ++ b) = tcells a ++ tcells b := by simp [tcells]
theorem tcells_len (a : List Tok) : (tcells a).length = 3 * a.length := by
  induction a with
  | nil => rfl
  | cons x t ih => simp only [tcells, List.flatMap_cons, List.length_append] at ih ⊢; rw [ih]; simp [tcell]; omega
theorem tcells_one (a : List Tok) : ∀ u ∈ tcells a, u.oneCell' = true := by
  intro u hu
  simp only [tcells, List.mem_flatMap, tcell] at hu
  obtain ⟨r, _, h⟩ := hu
  simp at h
  rcases h with rfl | rfl | rfl <;> rfl
theorem sizeOf_take {l : List Tok} {j : Nat} (h : j < l.length) : sizeOf (l.take (j + 1)) = sizeOf (l.take j) + width l[j] := by
  rw [List.take_succ_eq_append_getElem h]; unfold sizeOf; rw [List.map_append, List.sum_append]; simp
theorem sizeOf_part (l : List Tok) (j : Nat) : sizeOf (l.take j) ≤ 258 * l.length := by
  have := sizeOf_le (l.take j)
  have : (l.take j).length ≤ l.length := by rw [List.length_take]; omega
  omega
theorem right_any (w : World) (t : Tok) (r : Bool) (hr : r = right t) : Calls Try.prog 36 #[.agg #[.int .u8 t.lit, .int .i64 t.len, .int .i64 t.dist]] w fun e w' => e = .returned (.bool r) ∧ Fr w w' [] := by
  obtain ⟨a, b, c⟩ := t
  simp only
  by_cases h0 : b = 0
  · subst h0
    by_cases h1 : c = 0
    · subst h1
      obtain rfl : r = true := hr
      go_enter Try.func36, Try.ntmps36
      go_wp2
      go_ret
      exact ⟨rfl, (Fr.refl _ _).alloc _⟩
    · have e1 : (c == 0) = false := by simpa using h1
      obtain rfl : r = false := by rw [hr]; exact decide_eq_false h1
      clear hr
      go_enter Try.func36, Try.ntmps36
      go_wp2
      go_ret
      exact ⟨rfl, (Fr.refl _ _).alloc _⟩
  · have e0 : (b == 0) = false := by simpa using h0
    have hr' : r = decide (3 ≤ b ∧ b ≤ 258 ∧ 1 ≤ c ∧ c ≤ 32768 ∧ a = 0) := by rw [hr]; unfold right; rw [if_neg h0]
    clear hr
    by_cases h1 : b < 3
    · obtain rfl : r = false := by rw [hr']; exact decide_eq_false (fun h => by have := h.1; omega)
      try clear hr'
      go_enter Try.func36, Try.ntmps36
      go_wp2
      go_ret
      exact ⟨rfl, (Fr.refl _ _).alloc _⟩
    by_cases h2 : 258 < b
    · obtain rfl : r = false := by rw [hr']; exact decide_eq_false (fun h => by have := h.2.1; omega)
      try clear hr'
      go_enter Try.func36, Try.ntmps36
      go_wp2
      go_ret
      exact ⟨rfl, (Fr.refl _ _).alloc _⟩
    by_cases h3 : c < 1
    · obtain rfl : r = false := by rw [hr']; exact decide_eq_false (fun h => by have := h.2.2.1; omega)
      try clear hr'
      go_enter Try.func36, Try.ntmps36
      go_wp2
      go_ret
      exact ⟨rfl, (Fr.refl _ _).alloc _⟩
    by_cases h4 : 32768 < c
    · obtain rfl : r = false := by rw [hr']; exact decide_eq_false (fun h => by have := h.2.2.2.1; omega)
      try clear hr'
      go_enter Try.func36, Try.ntmps36
      go_wp2
      go_ret
      exact ⟨rfl, (Fr.refl _ _).alloc _⟩
    by_cases h5 : a = 0
    · subst h5
      obtain rfl : r = true := by rw [hr']; exact decide_eq_true ⟨by omega, by omega, by omega, by omega, rfl⟩
      try clear hr'
      go_enter Try.func36, Try.ntmps36
      go_wp2
      go_ret
      exact ⟨rfl, (Fr.refl _ _).alloc _⟩
    · have e5 : (a == 0) = false := by simpa using h5
      obtain rfl : r = false := by rw [hr']; exact decide_eq_false (fun h => h5 h.2.2.2.2)
      try clear hr'
      go_enter Try.func36, Try.ntmps36
      go_wp2
      go_ret
      exact ⟨rfl, (Fr.refl _ _).alloc _⟩
theorem may_any (w : World) (t : Tok) (r : Bool) (hr : r = right t) : Calls Try.prog 38 #[.agg #[.int .u8 t.lit, .int .i64 t.len, .int .i64 t.dist]] w fun e w' => e = .returned (.bool r) ∧ Fr w w' [] := by
  obtain ⟨a, b, c⟩ := t
  simp only
  by_cases h0 : b = 0
  · subst h0
    by_cases h1 : c = 0
    · subst h1
      obtain rfl : r = true := hr
      go_enter Try.func38, Try.ntmps38
      go_wp2
      go_ret
      exact ⟨rfl, (Fr.refl _ _).alloc _⟩
    · have e1 : (c == 0) = false := by simpa using h1
      obtain rfl : r = false := by rw [hr]; exact decide_eq_false h1
      clear hr
      go_enter Try.func38, Try.ntmps38
      go_wp2
      go_ret
      exact ⟨rfl, (Fr.refl _ _).alloc _⟩
  · have e0 : (b == 0) = false := by simpa using h0
    have hr' : r = decide (3 ≤ b ∧ b ≤ 258 ∧ 1 ≤ c ∧ c ≤ 32768 ∧ a = 0) := by rw [hr]; unfold right; rw [if_neg h0]
    clear hr
    by_cases h1 : b < 3
    · obtain rfl : r = false := by rw [hr']; exact decide_eq_false (fun h => by have := h.1; omega)
      try clear hr'
      go_enter Try.func38, Try.ntmps38
      go_wp2
      go_ret
      exact ⟨rfl, (Fr.refl _ _).alloc _⟩
    by_cases h2 : 258 < b
    · obtain rfl : r = false := by rw [hr']; exact decide_eq_false (fun h => by have := h.2.1; omega)
      try clear hr'
      go_enter Try.func38, Try.ntmps38
      go_wp2
      go_ret
      exact ⟨rfl, (Fr.refl _ _).alloc _⟩
    by_cases h3 : c < 1
    · obtain rfl : r = false := by rw [hr']; exact decide_eq_false (fun h => by have := h.2.2.1; omega)
      try clear hr'
      go_enter Try.func38, Try.ntmps38
      go_wp2
      go_ret
      exact ⟨rfl, (Fr.refl _ _).alloc _⟩
    by_cases h4 : 32768 < c
    · obtain rfl : r = false := by rw [hr']; exact decide_eq_false (fun h => by have := h.2.2.2.1; omega)
      try clear hr'
      go_enter Try.func38, Try.ntmps38
      go_wp2
      go_ret
      exact ⟨rfl, (Fr.refl _ _).alloc _⟩
    by_cases h5 : a = 0
    · subst h5
      obtain rfl : r = true := by rw [hr']; exact decide_eq_true ⟨by omega, by omega, by omega, by omega, rfl⟩
      try clear hr'
      go_enter Try.func38, Try.ntmps38
      go_wp2
      go_ret
      exact ⟨rfl, (Fr.refl _ _).alloc _⟩
    · have e5 : (a == 0) = false := by simpa using h5
      obtain rfl : r = false := by rw [hr']; exact decide_eq_false (fun h => h5 h.2.2.2.2)
      try clear hr'
      go_enter Try.func38, Try.ntmps38
      go_wp2
      go_ret
      exact ⟨rfl, (Fr.refl _ _).alloc _⟩
theorem bytes_any (w : World) (t : Tok) : Calls Try.prog 37 #[.agg #[.int .u8 t.lit, .int .i64 t.len, .int .i64 t.dist]] w fun e w' => e = .returned (.int .i64 (width t : Nat)) ∧ Fr w w' [] := by
  obtain ⟨a, b, c⟩ := t
  simp only
  obtain ⟨r, hr⟩ : ∃ r, r = right ⟨a, b, c⟩ := ⟨_, rfl⟩
  have HR := Hd.mk hr
  obtain ⟨m, hm⟩ : ∃ m, m = width ⟨a, b, c⟩ := ⟨_, rfl⟩
  have hm' : m = if r then (if b = 0 then 1 else b.toNat) else 0 := by rw [hm, hr]; rfl
  rw [← hm]
  clear hr hm
  go_enter Try.func37, Try.ntmps37
  go_wp2_with (fail)
  refine (right_any _ ⟨a, b, c⟩ r HR.out).mono ?_
  rintro e w1 ⟨rfl, h1⟩
  have hb := h1.blk (blk_new w (.cells #[.int .u8 a, .int .i64 b, .int .i64 c] 56)) (by simp)
  have F1 := Hd.mk (((Fr.refl w []).alloc (.cells #[.int .u8 a, .int .i64 b, .int .i64 c] 56)).trans h1 (by simp))
  have c1 := blk_cell hb 1
  simp only [List.getElem?_toArray, List.getElem?_cons_zero, List.getElem?_cons_succ] at c1
  clear h1 hb
  cases r with
  | false =>
    obtain rfl : m = 0 := hm'
    go_wp2
    go_ret
    exact ⟨rfl, F1.out⟩
  | true =>
    by_cases h0 : b = 0
    · subst h0
      obtain rfl : m = 1 := hm'
      go_wp2
      go_ret
      exact ⟨rfl, F1.out⟩
    · have e0 : (b == 0) = false := by simpa using h0
      have hb3 : 0 ≤ b := by
        have := HR.out
        have := right_len this.symm
        simp only at this
        omega
      rw [if_pos rfl, if_neg h0] at hm'
      obtain rfl : b = (m : Int) := by omega
      clear hm' hb3
      go_wp2
      go_ret
      exact ⟨rfl, F1.out⟩
theorem width_any (w : World) (t : Tok) : Calls Try.prog 39 #[.agg #[.int .u8 t.lit, .int .i64 t.len, .int .i64 t.dist]] w fun e w' => e = .returned (.int .i64 (width t : Nat)) ∧ Fr w w' [] := by
  obtain ⟨a, b, c⟩ := t
  simp only
  obtain ⟨r, hr⟩ : ∃ r, r = right ⟨a, b, c⟩ := ⟨_, rfl⟩
  have HR := Hd.mk hr
  obtain ⟨m, hm⟩ : ∃ m, m = width ⟨a, b, c⟩ := ⟨_, rfl⟩
  have hm' : m = if r then (if b = 0 then 1 else b.toNat) else 0 := by rw [hm, hr]; rfl
  rw [← hm]
  clear hr hm
  go_enter Try.func39, Try.ntmps39
  go_wp2_with (fail)
  refine (may_any _ ⟨a, b, c⟩ r HR.out).mono ?_
  rintro e w1 ⟨rfl, h1⟩
  have hb := h1.blk (blk_new w (.cells #[.int .u8 a, .int .i64 b, .int .i64 c] 74)) (by simp)
  have F1 := Hd.mk (((Fr.refl w []).alloc (.cells #[.int .u8 a, .int .i64 b, .int .i64 c] 74)).trans h1 (by simp))
  have c1 := blk_cell hb 1
  simp only [List.getElem?_toArray, List.getElem?_cons_zero, List.getElem?_cons_succ] at c1
  clear h1 hb
  cases r with
  | false =>
    obtain rfl : m = 0 := hm'
    go_wp2
    go_ret
    exact ⟨rfl, F1.out⟩
  | true =>
    by_cases h0 : b = 0
    · subst h0
      obtain rfl : m = 1 := hm'
      go_wp2
      go_ret
      exact ⟨rfl, F1.out⟩
    · have e0 : (b == 0) = false := by simpa using h0
      have hb3 : 0 ≤ b := by
        have := HR.out
        have := right_len this.symm
        simp only at this
        omega
      rw [if_pos rfl, if_neg h0] at hm'
      obtain rfl : b = (m : Int) := by omega
      clear hm' hb3
      go_wp2
      go_ret
      exact ⟨rfl, F1.out⟩
theorem size_any (w : World) (A : Option Addr) (n c : Nat) (l : List Tok) (p : Option Nat) (hn : l.length = n) (hS : Sl w A (tcells l) p) (hb : n ≤ 1099511627776) :
    Calls Try.prog 18 #[.slice A n c] w fun e w' => e = .returned (.int .i64 (sizeOf l : Nat)) ∧ Fr w w' [] := by
  subst hn
  have HS := Hd.mk hS
  clear hS
  go_enter Try.func18, Try.ntmps18
  go_wp2
  go_loopg [3, 8] l.length (fun kq sv jv wr => ∃ (j m : Nat), sv = .int .i64 (m : Nat) ∧ jv = .int .i64 (j : Nat) ∧ j + kq = l.length ∧ Hd (m = sizeOf (l.take j)) ∧ Hd (Fr w wr []))
  case atStart => exact ⟨0, 0, rfl, rfl, by omega, ⟨by simp [sizeOf]⟩, ⟨Fr.refl _ _⟩⟩
  case round =>
    obtain ⟨j, m, rfl, rfl, hj, HM, HF⟩ := hrel
    by_cases h1 : j < l.length
    · obtain ⟨a, o1, rfl, _, ha⟩ := Sl.row (enc := tcell) (sz := 3) (fun _ => rfl) (HS.out.frame HF.out (by simp)) h1 (by decide)
      obtain ⟨t, ht⟩ : ∃ t, t = l[j] := ⟨_, rfl⟩
      rw [← ht] at ha
      have c0 := ha 0 (by decide)
      have c1 := ha 1 (by decide)
      have c2 := ha 2 (by decide)
      simp only [tcell, List.getElem?_cons_zero, List.getElem?_cons_succ, Nat.add_zero] at c0 c1 c2
      have HT := Hd.mk ht
      have hmb : m ≤ 283673999966208 := by rw [HM.out]; have := sizeOf_part l j; omega
      have hwt := width_le t
      clear ha ht
      go_wp2_with (fail)
      refine (bytes_any _ t).mono ?_
      rintro e w2 ⟨rfl, h2⟩
      have F2 := Hd.mk ((HF.out.alloc (.cells #[.int .u8 t.lit, .int .i64 t.len, .int .i64 t.dist] 56)).trans h2 (by simp))
      clear h2
      obtain ⟨wt, hwt'⟩ : ∃ wt, wt = width t := ⟨_, rfl⟩
      rw [← hwt'] at hwt ⊢
      have HW := Hd.mk hwt'
      clear hwt'
      go_wp2
      go_roundg (gk - 1)
      case measure => omega
      case rel => exact ⟨j + 1, m + wt, by go_num, by go_num, by omega, ⟨by rw [sizeOf_take h1, HM.out, HW.out, HT.out]⟩, F2⟩
    · obtain rfl : j = l.length := by omega
      have hm : Hd (m = sizeOf l) := ⟨by rw [HM.out, List.take_length]⟩
      go_wp2
      go_ret
      rw [← hm.out]
      exact ⟨rfl, HF.out⟩
theorem rsize_any (w : World) (A : Option Addr) (n c : Nat) (l : List Tok) (p : Option Nat) (hn : l.length = n) (hS : Sl w A (tcells l) p) (hb : n ≤ 1099511627776) :
    Calls Try.prog 19 #[.slice A n c] w fun e w' => e = .returned (.int .i64 (sizeOf l : Nat)) ∧ Fr w w' [] := by
  subst hn
  have HS := Hd.mk hS
  clear hS
  go_enter Try.func19, Try.ntmps19
  go_wp2
  go_loopg [3, 8] l.length (fun kq sv jv wr => ∃ (j m : Nat), sv = .int .i64 (m : Nat) ∧ jv = .int .i64 (j : Nat) ∧ j + kq = l.length ∧ Hd (m = sizeOf (l.take j)) ∧ Hd (Fr w wr []))
  case atStart => exact ⟨0, 0, rfl, rfl, by omega, ⟨by simp [sizeOf]⟩, ⟨Fr.refl _ _⟩⟩
  case round =>
    obtain ⟨j, m, rfl, rfl, hj, HM, HF⟩ := hrel
    by_cases h1 : j < l.length
    · obtain ⟨a, o1, rfl, _, ha⟩ := Sl.row (enc := tcell) (sz := 3) (fun _ => rfl) (HS.out.frame HF.out (by simp)) h1 (by decide)
      obtain ⟨t, ht⟩ : ∃ t, t = l[j] := ⟨_, rfl⟩
      rw [← ht] at ha
      have c0 := ha 0 (by decide)
      have c1 := ha 1 (by decide)
      have c2 := ha 2 (by decide)
      simp only [tcell, List.getElem?_cons_zero, List.getElem?_cons_succ, Nat.add_zero] at c0 c1 c2
      have HT := Hd.mk ht
      have hmb : m ≤ 283673999966208 := by rw [HM.out]; have := sizeOf_part l j; omega
      have hwt := width_le t
      clear ha ht
      go_wp2_with (fail)
      refine (width_any _ t).mono ?_
      rintro e w2 ⟨rfl, h2⟩
      have F2 := Hd.mk ((HF.out.alloc (.cells #[.int .u8 t.lit, .int .i64 t.len, .int .i64 t.dist] 74)).trans h2 (by simp))
      clear h2
      obtain ⟨wt, hwt'⟩ : ∃ wt, wt = width t := ⟨_, rfl⟩
      rw [← hwt'] at hwt ⊢
      have HW := Hd.mk hwt'
      clear hwt'
      go_wp2
      go_roundg (gk - 1)
      case measure => omega
      case rel => exact ⟨j + 1, m + wt, by go_num, by go_num, by omega, ⟨by rw [sizeOf_take h1, HM.out, HW.out, HT.out]⟩, F2⟩
    · obtain rfl : j = l.length := by omega
      have hm : Hd (m = sizeOf l) := ⟨by rw [HM.out, List.take_length]⟩
      go_wp2
      go_ret
      rw [← hm.out]
      exact ⟨rfl, HF.out⟩
set_option maxHeartbeats 4000000 in
theorem check_any (w : World) (v : Int) (A : Option Addr) (n c : Nat) (l : List Tok) (p : Option Nat) (hn : l.length = n) (hS : Sl w A (tcells l) p) (hb : n ≤ 1099511627776) (pl : Nat) (er : Int) (hc : (pl, er) = check v l) :
    Calls Try.prog 13 #[.int .i64 v, .slice A n c] w fun e w' => e = .returned (.tuple #[.int .i64 (pl : Nat), .int .i64 er]) ∧ Fr w w' [] := by
  subst hn
  have HS := Hd.mk hS
  have HC := Hd.mk hc
  clear hS hc
  by_cases h0 : v < 1
  · have hc := HC.out
    unfold check at hc
    rw [if_pos (.inl h0)] at hc
    obtain ⟨rfl, rfl⟩ : pl = 0 ∧ er = 1 := by simpa using hc
    clear hc
    go_enter Try.func13, Try.ntmps13
    go_wp2
    go_ret2
    exact ⟨rfl, Fr.refl _ _⟩
  by_cases h00 : 32768 < v
  · have hc := HC.out
    unfold check at hc
    rw [if_pos (.inr h00)] at hc
    obtain ⟨rfl, rfl⟩ : pl = 0 ∧ er = 1 := by simpa using hc
    clear hc
    go_enter Try.func13, Try.ntmps13
    go_wp2
    go_ret2
    exact ⟨rfl, Fr.refl _ _⟩
  have HC2 : Hd ((pl, er) = checkF v l 0 0) := ⟨by have := HC.out; unfold check at this; rwa [if_neg (by omega)] at this⟩
  clear HC
  go_enter Try.func13, Try.ntmps13
  go_wp2
  go_loopg [6, 17] l.length (fun kq sv jv wr => ∃ (j m : Nat), sv = .int .i64 (m : Nat) ∧ jv = .int .i64 (j : Nat) ∧ j + kq = l.length ∧ Hd (m = sizeOf (l.take j)) ∧ Hd ((pl, er) = checkF v (l.drop j) j m) ∧ Hd (Fr w wr []))
  case atStart => exact ⟨0, 0, rfl, rfl, by omega, ⟨by simp [sizeOf]⟩, HC2, ⟨Fr.refl _ _⟩⟩
  case round =>
    obtain ⟨j, m, rfl, rfl, hj, HM, HK, HF⟩ := hrel
    by_cases h1 : j < l.length
    · obtain ⟨a, o1, rfl, _, ha⟩ := Sl.row (enc := tcell) (sz := 3) (fun _ => rfl) (HS.out.frame HF.out (by simp)) h1 (by decide)
      obtain ⟨t, ht⟩ : ∃ t, t = l[j] := ⟨_, rfl⟩
      rw [← ht] at ha
      have c0 := ha 0 (by decide)
      have c1 := ha 1 (by decide)
      have c2 := ha 2 (by decide)
      simp only [tcell, List.getElem?_cons_zero, List.getElem?_cons_succ, Nat.add_zero] at c0 c1 c2
      have HT := Hd.mk ht
      have hmb : m ≤ 283673999966208 := by rw [HM.out]; have := sizeOf_part l j; omega
      have hwt := width_le t
      have HK2 : Hd ((pl, er) = if right t = false then (j, 70) else if v < t.dist ∨ (m : Int) < t.dist then (j, 71) else checkF v (l.drop (j + 1)) (j + 1) (m + width t)) := ⟨by
        have := HK.out
        rw [List.drop_eq_getElem_cons h1, ← HT.out] at this
        exact this⟩
      obtain ⟨r, hr⟩ : ∃ r, r = right t := ⟨_, rfl⟩
      have HR := Hd.mk hr
      clear ha ht hr HK
      go_wp2_with (fail)
      refine (right_any _ t r HR.out).mono ?_
      rintro e w2 ⟨rfl, h2⟩
      have hb := h2.blk (blk_new wr (.cells #[.int .u8 t.lit, .int .i64 t.len, .int .i64 t.dist] 56)) (by simp)
      have F2 := Hd.mk ((HF.out.alloc (.cells #[.int .u8 t.lit, .int .i64 t.len, .int .i64 t.dist] 56)).trans h2 (by simp))
      have d0 := blk_cell hb 0
      have d1 := blk_cell hb 1
      have d2 := blk_cell hb 2
      simp only [List.getElem?_toArray, List.getElem?_cons_zero, List.getElem?_cons_succ] at d0 d1 d2
      clear h2 hb c0 c1 c2
      cases r with
      | false =>
        have hk := HK2.out
        rw [if_pos HR.out.symm] at hk
        obtain ⟨rfl, rfl⟩ : pl = j ∧ er = 70 := by simpa using hk
        clear hk
        go_wp2
        go_ret2
        exact ⟨rfl, F2.out⟩
      | true =>
        have HK3 : Hd ((pl, er) = if v < t.dist ∨ (m : Int) < t.dist then (j, 71) else checkF v (l.drop (j + 1)) (j + 1) (m + width t)) := ⟨by
          have := HK2.out
          rwa [if_neg (by rw [← HR.out]; simp)] at this⟩
        have hlen : t.len = 0 ∧ t.dist = 0 ∨ 0 < t.len := by
          have := right_len HR.out.symm
          omega
        obtain ⟨lt, ln, ds⟩ := t
        simp only at hlen HK3 d0 d1 d2
        by_cases hq : v < ds ∨ (m : Int) < ds
        · have hln : 0 < ln := by omega
          have hk := HK3.out
          rw [if_pos hq] at hk
          obtain ⟨rfl, rfl⟩ : pl = j ∧ er = 71 := by simpa using hk
          clear hk
          clear hlen
          by_cases hq1 : v < ds
          · go_wp2
            go_ret2
            exact ⟨rfl, F2.out⟩
          · have hq2 : (m : Int) < ds := by omega
            clear hq
            go_wp2
            go_ret2
            exact ⟨rfl, F2.out⟩
        · have hq1 : ¬ v < ds := fun h => hq (.inl h)
          have hq2 : ¬ (m : Int) < ds := fun h => hq (.inr h)
          have HK4 : Hd ((pl, er) = checkF v (l.drop (j + 1)) (j + 1) (m + width ⟨lt, ln, ds⟩)) := ⟨by
            have := HK3.out
            rwa [if_neg hq] at this⟩
          clear hq
          obtain ⟨wt, hwt'⟩ : ∃ wt, wt = width ⟨lt, ln, ds⟩ := ⟨_, rfl⟩
          rw [← hwt'] at hwt HK4
          have HW := Hd.mk hwt'
          clear hwt'
          rcases hlen with ⟨rfl, rfl⟩ | hln
          all_goals
            go_wp2_with (fail)
            refine (bytes_any _ ⟨lt, _, _⟩).mono ?_
            rintro e w3 ⟨rfl, h3⟩
            have F3 := Hd.mk (F2.out.trans h3 (by simp))
            clear h3
            rw [← HW.out]
            go_wp2
            go_roundg (gk - 1)
            case measure => omega
            case rel => exact ⟨j + 1, m + wt, by go_num, by go_num, by omega, ⟨by rw [sizeOf_take h1, HM.out, HW.out, HT.out]⟩, HK4, F3⟩
    · obtain rfl : j = l.length := by omega
      have hk := HK.out
      rw [List.drop_length] at hk
      obtain ⟨rfl, rfl⟩ : pl = 0 ∧ er = 0 := by simpa [checkF] using hk
      clear hk
      go_wp2
      go_ret2
      exact ⟨rfl, HF.out⟩
set_option maxHeartbeats 4000000 in
theorem rcheck_any (w : World) (v : Int) (A : Option Addr) (n c : Nat) (l : List Tok) (p : Option Nat) (hn : l.length = n) (hS : Sl w A (tcells l) p) (hb : n ≤ 1099511627776) (pl : Nat) (er : Int) (hc : (pl, er) = check v l) :
    Calls Try.prog 14 #[.int .i64 v, .slice A n c] w fun e w' => e = .returned (.tuple #[.int .i64 (pl : Nat), .int .i64 er]) ∧ Fr w w' [] := by
  subst hn
  have HS := Hd.mk hS
  have HC := Hd.mk hc
  clear hS hc
  by_cases h0 : v < 1
  · have hc := HC.out
    unfold check at hc
    rw [if_pos (.inl h0)] at hc
    obtain ⟨rfl, rfl⟩ : pl = 0 ∧ er = 1 := by simpa using hc
    clear hc
    go_enter Try.func14, Try.ntmps14
    go_wp2
    go_ret2
    exact ⟨rfl, Fr.refl _ _⟩
  by_cases h00 : 32768 < v
  · have hc := HC.out
    unfold check at hc
    rw [if_pos (.inr h00)] at hc
    obtain ⟨rfl, rfl⟩ : pl = 0 ∧ er = 1 := by simpa using hc
    clear hc
    go_enter Try.func14, Try.ntmps14
    go_wp2
    go_ret2
    exact ⟨rfl, Fr.refl _ _⟩
  have HC2 : Hd ((pl, er) = checkF v l 0 0) := ⟨by have := HC.out; unfold check at this; rwa [if_neg (by omega)] at this⟩
  clear HC
  go_enter Try.func14, Try.ntmps14
  go_wp2
  go_loopg [6, 17] l.length (fun kq sv jv wr => ∃ (j m : Nat), sv = .int .i64 (m : Nat) ∧ jv = .int .i64 (j : Nat) ∧ j + kq = l.length ∧ Hd (m = sizeOf (l.take j)) ∧ Hd ((pl, er) = checkF v (l.drop j) j m) ∧ Hd (Fr w wr []))
  case atStart => exact ⟨0, 0, rfl, rfl, by omega, ⟨by simp [sizeOf]⟩, HC2, ⟨Fr.refl _ _⟩⟩
  case round =>
    obtain ⟨j, m, rfl, rfl, hj, HM, HK, HF⟩ := hrel
    by_cases h1 : j < l.length
    · obtain ⟨a, o1, rfl, _, ha⟩ := Sl.row (enc := tcell) (sz := 3) (fun _ => rfl) (HS.out.frame HF.out (by simp)) h1 (by decide)
      obtain ⟨t, ht⟩ : ∃ t, t = l[j] := ⟨_, rfl⟩
      rw [← ht] at ha
      have c0 := ha 0 (by decide)
      have c1 := ha 1 (by decide)
      have c2 := ha 2 (by decide)
      simp only [tcell, List.getElem?_cons_zero, List.getElem?_cons_succ, Nat.add_zero] at c0 c1 c2
      have HT := Hd.mk ht
      have hmb : m ≤ 283673999966208 := by rw [HM.out]; have := sizeOf_part l j; omega
      have hwt := width_le t
      have HK2 : Hd ((pl, er) = if right t = false then (j, 70) else if v < t.dist ∨ (m : Int) < t.dist then (j, 71) else checkF v (l.drop (j + 1)) (j + 1) (m + width t)) := ⟨by
        have := HK.out
        rw [List.drop_eq_getElem_cons h1, ← HT.out] at this
        exact this⟩
      obtain ⟨r, hr⟩ : ∃ r, r = right t := ⟨_, rfl⟩
      have HR := Hd.mk hr
      clear ha ht hr HK
      go_wp2_with (fail)
      refine (may_any _ t r HR.out).mono ?_
      rintro e w2 ⟨rfl, h2⟩
      have hb := h2.blk (blk_new wr (.cells #[.int .u8 t.lit, .int .i64 t.len, .int .i64 t.dist] 74)) (by simp)
      have F2 := Hd.mk ((HF.out.alloc (.cells #[.int .u8 t.lit, .int .i64 t.len, .int .i64 t.dist] 74)).trans h2 (by simp))
      have d0 := blk_cell hb 0
      have d1 := blk_cell hb 1
      have d2 := blk_cell hb 2
      simp only [List.getElem?_toArray, List.getElem?_cons_zero, List.getElem?_cons_succ] at d0 d1 d2
      clear h2 hb c0 c1 c2
      cases r with
      | false =>
        have hk := HK2.out
        rw [if_pos HR.out.symm] at hk
        obtain ⟨rfl, rfl⟩ : pl = j ∧ er = 70 := by simpa using hk
        clear hk
        go_wp2
        go_ret2
        exact ⟨rfl, F2.out⟩
      | true =>
        have HK3 : Hd ((pl, er) = if v < t.dist ∨ (m : Int) < t.dist then (j, 71) else checkF v (l.drop (j + 1)) (j + 1) (m + width t)) := ⟨by
          have := HK2.out
          rwa [if_neg (by rw [← HR.out]; simp)] at this⟩
        have hlen : t.len = 0 ∧ t.dist = 0 ∨ 0 < t.len := by
          have := right_len HR.out.symm
          omega
        obtain ⟨lt, ln, ds⟩ := t
        simp only at hlen HK3 d0 d1 d2
        by_cases hq : v < ds ∨ (m : Int) < ds
        · have hln : 0 < ln := by omega
          have hk := HK3.out
          rw [if_pos hq] at hk
          obtain ⟨rfl, rfl⟩ : pl = j ∧ er = 71 := by simpa using hk
          clear hk
          clear hlen
          by_cases hq1 : v < ds
          · go_wp2
            go_ret2
            exact ⟨rfl, F2.out⟩
          · have hq2 : (m : Int) < ds := by omega
            clear hq
            go_wp2
            go_ret2
            exact ⟨rfl, F2.out⟩
        · have hq1 : ¬ v < ds := fun h => hq (.inl h)
          have hq2 : ¬ (m : Int) < ds := fun h => hq (.inr h)
          have HK4 : Hd ((pl, er) = checkF v (l.drop (j + 1)) (j + 1) (m + width ⟨lt, ln, ds⟩)) := ⟨by
            have := HK3.out
            rwa [if_neg hq] at this⟩
          clear hq
          obtain ⟨wt, hwt'⟩ : ∃ wt, wt = width ⟨lt, ln, ds⟩ := ⟨_, rfl⟩
          rw [← hwt'] at hwt HK4
          have HW := Hd.mk hwt'
          clear hwt'
          rcases hlen with ⟨rfl, rfl⟩ | hln
          all_goals
            go_wp2_with (fail)
            refine (width_any _ ⟨lt, _, _⟩).mono ?_
            rintro e w3 ⟨rfl, h3⟩
            have F3 := Hd.mk (F2.out.trans h3 (by simp))
            clear h3
            rw [← HW.out]
            go_wp2
            go_roundg (gk - 1)
            case measure => omega
            case rel => exact ⟨j + 1, m + wt, by go_num, by go_num, by omega, ⟨by rw [sizeOf_take h1, HM.out, HW.out, HT.out]⟩, HK4, F3⟩
    · obtain rfl : j = l.length := by omega
      have hk := HK.out
      rw [List.drop_length] at hk
      obtain ⟨rfl, rfl⟩ : pl = 0 ∧ er = 0 := by simpa [checkF] using hk
      clear hk
      go_wp2
      go_ret2
      exact ⟨rfl, HF.out⟩
end Go.Proofs.Ytbfdokklhdmmoaa.Lz
