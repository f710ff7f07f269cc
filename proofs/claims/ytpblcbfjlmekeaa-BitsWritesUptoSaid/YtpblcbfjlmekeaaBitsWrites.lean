/- One call of both writers (writes): they answer alike and stay alike. Conditions: fewer than 2^45 bits. -/
import Derived.Test.YtpblcbfjlmekeaaRefWB
import Derived.Test.YtpblcbfjlmekeaaOwn
import Derived.Test.YtpblcbfjlmekeaaBitsReads
set_option linter.unusedVariables false
set_option linter.unusedSimpArgs false
set_option maxRecDepth 100000
namespace Go.Proofs.Ytpblcbfjlmekeaa.Bits
open Go.RowKit Go.Proofs.Ytpblcbfjlmekeaa.Lib Go.Proofs.Ytpblcbfjlmekeaa.Num

def putK (v : Nat) (n : Int) : Nat := if mayN v n = 0 then n.toNat else 0
def putX (v : Nat) (n : Int) (x : Nat) : Nat := if mayN v n = 0 then x else 0
theorem putK_le (v : Nat) (n : Int) : putK v n ≤ 56 := by
  unfold putK
  split
  · have := mayN_zero ‹_›; omega
  · omega
section
variable {g : Nat} {T : TypeId} {N m : Nat} {q : Option Nat}
theorem put_all (n : Int) (v : Nat) (w : World) (hm : m + 56 ≤ 1125899906842624) (hT : Tl w g T N m q) :
    Calls Try.prog 16 #[.pointer (some ⟨g, 0, none⟩), .int .u64 (v : Nat), .int .i64 n] w fun e w' => e = .returned (.int .i64 (mayN v n)) ∧
      ∃ q', Tl w' g T (N + putX v n v * 2 ^ m) (m + putK v n) q' ∧ Aft w q q' ∧ Fr w w' (g :: q.toList) := by
  unfold putX putK
  by_cases h : mayN v n = 0
  · rw [if_pos h, if_pos h, h]
    exact put_ok (v : Int) n v w rfl h (by have := mayN_zero h; omega) hT
  · rw [if_neg h, if_neg h]
    refine (put_no (v : Int) n v w rfl h).mono ?_
    rintro e w' ⟨rfl, rfl⟩
    exact ⟨rfl, q, by simpa using hT, Aft.refl _ _, Fr.refl _ _⟩
theorem turned_all (n : Int) (v : Nat) (w : World) (hm : m + 56 ≤ 1125899906842624) (hT : Tl w g T N m q) :
    Calls Try.prog 15 #[.pointer (some ⟨g, 0, none⟩), .int .u64 (v : Nat), .int .i64 n] w fun e w' => e = .returned (.int .i64 (mayN v n)) ∧
      ∃ q', Tl w' g T (N + putX v n (rv v n.toNat) * 2 ^ m) (m + putK v n) q' ∧ Aft w q q' ∧ Fr w w' (g :: q.toList) := by
  unfold putX putK
  by_cases h : mayN v n = 0
  · rw [if_pos h, if_pos h, h]
    exact turned_ok (v : Int) n v w rfl h (by have := mayN_zero h; omega) hT
  · rw [if_neg h, if_neg h]
    refine (turned_no (v : Int) n v w rfl h).mono ?_
    rintro e w' ⟨rfl, rfl⟩
    exact ⟨rfl, q, by simpa using hT, Aft.refl _ _, Fr.refl _ _⟩
theorem wput_all (n : Int) (v : Nat) (w : World) (hm : m + 56 ≤ 70368744177664) (hT : RW w g N m q) :
    Calls Try.prog 39 #[.pointer (some ⟨g, 0, none⟩), .int .u64 (v : Nat), .int .i64 n] w fun e w' => e = .returned (.int .i64 (mayN v n)) ∧
      ∃ q', RW w' g (N + putX v n v * 2 ^ m) (m + putK v n) q' ∧ Aft w q q' ∧ Fr w w' (g :: q.toList) := by
  unfold putX putK
  by_cases h : mayN v n = 0
  · rw [if_pos h, if_pos h, h]
    exact wput_ok (v : Int) n v w rfl h (by have := mayN_zero h; omega) hT
  · rw [if_neg h, if_neg h]
    refine (wput_no (v : Int) n v w rfl h).mono ?_
    rintro e w' ⟨rfl, rfl⟩
    exact ⟨rfl, q, by simpa using hT, Aft.refl _ _, Fr.refl _ _⟩
theorem wturned_all (n : Int) (v : Nat) (w : World) (hm : m + 56 ≤ 70368744177664) (hT : RW w g N m q) :
    Calls Try.prog 40 #[.pointer (some ⟨g, 0, none⟩), .int .u64 (v : Nat), .int .i64 n] w fun e w' => e = .returned (.int .i64 (mayN v n)) ∧
      ∃ q', RW w' g (N + putX v n (rv v n.toNat) * 2 ^ m) (m + putK v n) q' ∧ Aft w q q' ∧ Fr w w' (g :: q.toList) := by
  unfold putX putK
  by_cases h : mayN v n = 0
  · rw [if_pos h, if_pos h, h]
    exact wturned_ok (v : Int) n v w rfl h (by have := mayN_zero h; omega) hT
  · rw [if_neg h, if_neg h]
    refine (wturned_no (v : Int) n v w rfl h).mono ?_
    rintro e w' ⟨rfl, rfl⟩
    exact ⟨rfl, q, by simpa using hT, Aft.refl _ _, Fr.refl _ _⟩
end
/-- both writers hold the same -/
structure Pw (w : World) (g1 g2 N m : Nat) (q1 q2 : Option Nat) : Prop where
  tl : Tl w g1 44 N m q1
  rw : RW w g2 N m q2
/-- their blocks -/
def blks (g1 g2 : Nat) (q1 q2 : Option Nat) : List Nat := (g1 :: q1.toList) ++ (g2 :: q2.toList)
theorem mem_blks {g1 g2 x : Nat} {q1 q2 : Option Nat} : x ∈ blks g1 g2 q1 q2 ↔ x = g1 ∨ q1 = some x ∨ x = g2 ∨ q2 = some x := by
  simp [blks, or_assoc]
theorem tl_rw {w : World} {g1 g2 N m N' m' : Nat} {T : TypeId} {q1 q2 : Option Nat} (a : Tl w g1 T N m q1) (b : RW w g2 N' m' q2) (hT : T = 44) :
    g1 ≠ g2 ∧ q1 ≠ some g2 ∧ q2 ≠ some g1 ∧ ∀ k, q1 = some k → q2 ≠ some k := by
  subst hT
  obtain ⟨sv, hb, hown, rfl, _⟩ := a
  obtain ⟨A, c, hb2, hown2, rfl, _⟩ := b
  refine ⟨blk_ne hb hb2 (by decide), own_ne hown hb2 (by decide), own_ne hown2 hb (by decide), fun k h1 h2 => ?_⟩
  obtain ⟨cs, hc⟩ := own_type hown h1
  exact own_ne hown2 hc (by decide) h2
theorem Pw.lt {w : World} {g1 g2 N m : Nat} {q1 q2 : Option Nat} (p : Pw w g1 g2 N m q1 q2) : ∀ x, x ∈ blks g1 g2 q1 q2 → x < w.heap.size := by
  intro x hx
  rcases mem_blks.1 hx with rfl | h | rfl | h
  · exact p.tl.lt.1
  · exact p.tl.lt.2 x h
  · exact p.rw.lt.1
  · exact p.rw.lt.2 x h
theorem Pw.keep {w w' : World} {g1 g2 N m : Nat} {q1 q2 : Option Nat} (p : Pw w g1 g2 N m q1 q2) (hf : Fr w w' []) : Pw w' g1 g2 N m q1 q2 := ⟨p.tl.frame hf (by simp) (by simp), p.rw.frame hf (by simp) (by simp)⟩
def WLeft (w w' : World) (g1 g2 m : Nat) (q1 q2 : Option Nat) (l : Nat) : Prop := ∃ N' m' q1' q2', Pw w' g1 g2 N' m' q1' q2' ∧ Af w q1 q1' ∧ Af w q2 q2' ∧ Fr w w' (blks g1 g2 q1 q2) ∧ m' ≤ m + 56 + 8 * l
/-- first the program's writer, then the document's -/
theorem Pw.two {w w1 w2 : World} {g1 g2 N m N' m' : Nat} {q1 q2 q1' q2' : Option Nat} (p : Pw w g1 g2 N m q1 q2) (h1 : Tl w1 g1 44 N' m' q1') (a1 : Aft w q1 q1') (f1 : Fr w w1 (g1 :: q1.toList))
    (h2 : RW w2 g2 N' m' q2') (a2 : Aft w1 q2 q2') (f2 : Fr w1 w2 (g2 :: q2.toList)) : Pw w2 g1 g2 N' m' q1' q2' ∧ Af w q1 q1' ∧ Af w q2 q2' ∧ Fr w w2 (blks g1 g2 q1 q2) := by
  have hs := f1.size
  have n1 := tl_rw p.tl p.rw rfl
  have hq1 : ∀ k, q1' = some k → k ∉ g2 :: q2.toList := by
    intro k hk e
    simp only [List.mem_cons, Option.mem_toList] at e
    rcases aft_af a1 k hk with h | h
    · rcases e with rfl | e
      · exact n1.2.1 h
      · exact n1.2.2.2 k h e
    · rcases e with rfl | e
      · have := p.rw.lt.1; omega
      · have := p.rw.lt.2 k e; omega
  refine ⟨⟨h1.frame f2 (by simp only [List.mem_cons, Option.mem_toList, not_or]; exact ⟨n1.1, n1.2.2.1⟩) hq1, h2⟩, aft_af a1, fun k hk => (aft_af a2 k hk).imp id (fun e => by omega), ?_⟩
  exact f1.both f2 (fun x _ hx => by unfold blks; exact List.mem_append_left _ hx) (fun x _ hx => by unfold blks; exact List.mem_append_right _ hx)
/-- first the document's writer, then the program's -/
theorem Pw.two' {w w1 w2 : World} {g1 g2 N m N' m' : Nat} {q1 q2 q1' q2' : Option Nat} (p : Pw w g1 g2 N m q1 q2) (h2 : RW w1 g2 N' m' q2') (a2 : Aft w q2 q2') (f2 : Fr w w1 (g2 :: q2.toList))
    (h1 : Tl w2 g1 44 N' m' q1') (a1 : Aft w1 q1 q1') (f1 : Fr w1 w2 (g1 :: q1.toList)) : Pw w2 g1 g2 N' m' q1' q2' ∧ Af w q1 q1' ∧ Af w q2 q2' ∧ Fr w w2 (blks g1 g2 q1 q2) := by
  have hs := f2.size
  have n1 := tl_rw p.tl p.rw rfl
  have hq2 : ∀ k, q2' = some k → k ∉ g1 :: q1.toList := by
    intro k hk e
    simp only [List.mem_cons, Option.mem_toList] at e
    rcases aft_af a2 k hk with h | h
    · rcases e with rfl | e
      · exact n1.2.2.1 h
      · exact n1.2.2.2 k e h
    · rcases e with rfl | e
      · have := p.tl.lt.1; omega
      · have := p.tl.lt.2 k e; omega
  refine ⟨⟨h1, h2.frame f1 (by simp only [List.mem_cons, Option.mem_toList, not_or]; exact ⟨fun e => n1.1 e.symm, n1.2.1⟩) hq2⟩, fun k hk => (aft_af a1 k hk).imp id (fun e => by omega), aft_af a2, ?_⟩
  exact f2.both f1 (fun x _ hx => by unfold blks; exact List.mem_append_right _ hx) (fun x _ hx => by unfold blks; exact List.mem_append_left _ hx)
theorem Pw.tl2 {w w1 : World} {g1 g2 N m : Nat} {q1 q2 : Option Nat} (p : Pw w g1 g2 N m q1 q2) (f2 : Fr w w1 (g2 :: q2.toList)) : Tl w1 g1 44 N m q1 := by
  have n1 := tl_rw p.tl p.rw rfl
  refine p.tl.frame f2 (by simp only [List.mem_cons, Option.mem_toList, not_or]; exact ⟨n1.1, n1.2.2.1⟩) (fun k hk e => ?_)
  simp only [List.mem_cons, Option.mem_toList] at e
  rcases e with rfl | e
  · exact n1.2.1 hk
  · exact n1.2.2.2 k hk e
theorem Pw.rw2 {w w1 : World} {g1 g2 N m : Nat} {q1 q2 : Option Nat} (p : Pw w g1 g2 N m q1 q2) (f1 : Fr w w1 (g1 :: q1.toList)) : RW w1 g2 N m q2 := by
  have n1 := tl_rw p.tl p.rw rfl
  refine p.rw.frame f1 (by simp only [List.mem_cons, Option.mem_toList, not_or]; exact ⟨fun e => n1.1 e.symm, n1.2.1⟩) (fun k hk e => ?_)
  simp only [List.mem_cons, Option.mem_toList] at e
  rcases e with rfl | e
  · exact n1.2.2.1 hk
  · exact n1.2.2.2 k e hk
end Go.Proofs.Ytpblcbfjlmekeaa.Bits
