/- One call of both readers (reads): they answer alike and stay alike. Conditions: fewer than 2^59 bits are taken. -/
import Derived.Test.YtncjckhcellehaaRefR
import Derived.Test.YtncjckhcellehaaLend
import Derived.Deep.QuietTactic
import Derived.BigQuiet
set_option linter.unusedVariables false
set_option linter.unusedSimpArgs false
set_option maxRecDepth 100000
namespace Go.Proofs.Ytncjckhcellehaa.Bits
open Go.RowKit Go.Proofs.Ytncjckhcellehaa.Lib Go.Proofs.Ytncjckhcellehaa.Num

def okn (n : Int) (h : Nat) : Bool := decide (0 ≤ n ∧ n ≤ 56 ∧ n ≤ h)
def tk (n : Int) (h : Nat) : Nat := if okn n h then n.toNat else 0
/-- q' is q, or new, or none -/
def Af (w : World) (q q' : Option Nat) : Prop := ∀ k, q' = some k → q = some k ∨ w.heap.size ≤ k
theorem aft_af {w : World} {q q' : Option Nat} (h : Aft w q q') : Af w q q' := by
  intro k hk
  rcases h with rfl | ⟨j, rfl, hj⟩
  · exact .inl hk
  · cases hk; exact .inr hj
theorem tk_le (n : Int) (h : Nat) : tk n h ≤ 56 := by unfold tk okn; split <;> simp_all <;> omega
section
variable {g V b t : Nat} {q : Option Nat}
theorem take_all (w : World) (n : Int) (k : Nat) (hk : k = tk n b) (ht : t ≤ 1152921504606846976) (hr : Rd w g V b t) :
    Calls Try.prog 26 #[.pointer (some ⟨g, 0, none⟩), .int .i64 n] w fun e w' => e = .returned (.tuple #[.int .u64 ((V % 2 ^ k : Nat) : Int), .bool (okn n b)]) ∧
      Rd w' g (V / 2 ^ k) (b - k) (t + k) ∧ Fr w w' [g] := by
  by_cases h : 0 ≤ n ∧ n ≤ 56 ∧ n ≤ b
  · have ho : okn n b = true := by simp [okn]; exact h
    have hk' : k = n.toNat := by rw [hk, tk, ho]; rfl
    subst hk'
    rw [ho]
    exact take_ok w n h.1 h.2.1 h.2.2 ht hr
  · have ho : okn n b = false := by simp [okn]; omega
    have hk' : k = 0 := by rw [hk, tk, ho]; rfl
    subst hk'
    rw [ho]
    refine (take_no w n (by omega) hr).mono ?_
    rintro e w' ⟨rfl, rfl⟩
    simp only [Nat.pow_zero, Nat.mod_one, Nat.div_one, Nat.sub_zero, Nat.add_zero]
    exact ⟨rfl, hr, Fr.refl _ _⟩
theorem peek_all (w : World) (n : Int) (k : Nat) (hk : k = tk n b) (hr : Rd w g V b t) :
    Calls Try.prog 44 #[.pointer (some ⟨g, 0, none⟩), .int .i64 n] w fun e w' => e = .returned (.tuple #[.int .u64 ((V % 2 ^ k : Nat) : Int), .bool (okn n b)]) ∧ Fr w w' [] := by
  by_cases h : 0 ≤ n ∧ n ≤ 56 ∧ n ≤ b
  · have ho : okn n b = true := by simp [okn]; exact h
    have hk' : k = n.toNat := by rw [hk, tk, ho]; rfl
    subst hk'
    rw [ho]
    refine (peek_ok w n h.1 h.2.1 h.2.2 hr).mono ?_
    rintro e w' ⟨rfl, rfl⟩
    exact ⟨rfl, (Fr.refl _ _).drew⟩
  · have ho : okn n b = false := by simp [okn]; omega
    have hk' : k = 0 := by rw [hk, tk, ho]; rfl
    subst hk'
    rw [ho]
    refine (peek_no w n (by omega) hr).mono ?_
    rintro e w' ⟨rfl, rfl⟩
    simp only [Nat.pow_zero, Nat.mod_one]
    exact ⟨rfl, Fr.refl _ _⟩
theorem rtake_all (w : World) (n : Int) (k : Nat) (hk : k = tk n b) (hb : b ≤ 64) (ht : t ≤ 1152921504606846976) (hr : RR w g V b t q) :
    Calls Try.prog 27 #[.pointer (some ⟨g, 0, none⟩), .int .i64 n] w fun e w' => e = .returned (.tuple #[.int .u64 ((V % 2 ^ k : Nat) : Int), .bool (okn n b)]) ∧
      ∃ q', RR w' g (V / 2 ^ k) (b - k) (t + k) q' ∧ Af w q q' ∧ Fr w w' (g :: q.toList) := by
  by_cases h : 0 ≤ n ∧ n ≤ 56 ∧ n ≤ b
  · have ho : okn n b = true := by simp [okn]; exact h
    have hk' : k = n.toNat := by rw [hk, tk, ho]; rfl
    subst hk'
    rw [ho]
    refine (rtake_ok w n h.1 h.2.1 h.2.2 hb ht hr).mono ?_
    rintro e w' ⟨rfl, q', h1, h2, h3⟩
    exact ⟨rfl, q', h1, fun j hj => .inr (h2 j hj), h3.mono (by intro k _ hk; simp at hk; simp [hk])⟩
  · have ho : okn n b = false := by simp [okn]; omega
    have hk' : k = 0 := by rw [hk, tk, ho]; rfl
    subst hk'
    rw [ho]
    refine (rtake_no w n (by omega) hr).mono ?_
    rintro e w' ⟨rfl, rfl⟩
    simp only [Nat.pow_zero, Nat.mod_one, Nat.div_one, Nat.sub_zero, Nat.add_zero]
    exact ⟨rfl, q, hr, fun _ h => .inl h, Fr.refl _ _⟩
theorem rpeek_all (w : World) (n : Int) (k : Nat) (hk : k = tk n b) (hb : b ≤ 64) (hr : RR w g V b t q) :
    Calls Try.prog 45 #[.pointer (some ⟨g, 0, none⟩), .int .i64 n] w fun e w' => e = .returned (.tuple #[.int .u64 ((V % 2 ^ k : Nat) : Int), .bool (okn n b)]) ∧ w = w' := by
  by_cases h : 0 ≤ n ∧ n ≤ 56 ∧ n ≤ b
  · have ho : okn n b = true := by simp [okn]; exact h
    have hk' : k = n.toNat := by rw [hk, tk, ho]; rfl
    subst hk'
    rw [ho]
    exact rpeek_ok w n h.1 h.2.1 h.2.2 hb hr
  · have ho : okn n b = false := by simp [okn]; omega
    have hk' : k = 0 := by rw [hk, tk, ho]; rfl
    subst hk'
    rw [ho]
    refine (rpeek_no w n (by omega) hr).mono ?_
    rintro e w' ⟨rfl, rfl⟩
    rw [Nat.pow_zero, Nat.mod_one]
    exact ⟨rfl, rfl⟩
end

theorem quiet_left {P : Program} {f : FuncId} {args : Array Value} {w : World} {n : Nat} {v : Value}
    (h : Calls P f args (w.drewN n) fun e w' => e = .returned v ∧ w.drewN n = w') : Calls P f args (w.drewN n) fun e w'' => e = .returned v ∧ ∃ m, w'' = w.drewN m :=
  h.mono fun _ _ ⟨he, hm⟩ => ⟨he, n, hm.symm⟩
theorem rr_ne {w : World} {g1 g2 V h t V' h' t' : Nat} {q : Option Nat} (h1 : Rd w g1 V h t) (h2 : RR w g2 V' h' t' q) : g1 ≠ g2 ∧ q ≠ some g1 := by
  obtain ⟨A, c, hb, hown, rfl, hV⟩ := h2
  exact ⟨blk_ne h1.1 hb (by decide), own_ne hown h1.1 (by decide)⟩
/-- Both readers hold the same. -/
structure Pr (w : World) (g1 g2 V h t : Nat) (q : Option Nat) : Prop where
  rd : Rd w g1 V h t
  rr : RR w g2 V h t q
theorem Pr.ne {w : World} {g1 g2 V h t : Nat} {q : Option Nat} (p : Pr w g1 g2 V h t q) : g1 ≠ g2 ∧ q ≠ some g1 ∧ q ≠ some g2 := ⟨(rr_ne p.rd p.rr).1, (rr_ne p.rd p.rr).2, p.rr.ne⟩
theorem Pr.keep {w w' : World} {g1 g2 V h t : Nat} {q : Option Nat} (p : Pr w g1 g2 V h t q) (hf : Fr w w' []) : Pr w' g1 g2 V h t q := ⟨p.rd.frame hf (by simp), p.rr.frame hf (by simp) (by simp)⟩
theorem Pr.lt {w : World} {g1 g2 V h t : Nat} {q : Option Nat} (p : Pr w g1 g2 V h t q) : g1 < w.heap.size ∧ g2 < w.heap.size ∧ ∀ k, q = some k → k < w.heap.size := ⟨p.rd.lt, p.rr.lt.1, p.rr.lt.2⟩
/-- what a call leaves -/
def Left (w w' : World) (g1 g2 t : Nat) (q : Option Nat) : Prop := ∃ V' h' t' q', Pr w' g1 g2 V' h' t' q' ∧ Af w q q' ∧ Fr w w' (g1 :: g2 :: q.toList) ∧ t' ≤ t + 56
theorem _root_.Go.Proofs.Ytncjckhcellehaa.Lib.Fr.both {a b c : World} {F G H : List Nat} (h : Fr a b F) (k : Fr b c G) (h1 : ∀ x, x < a.heap.size → x ∈ F → x ∈ H) (h2 : ∀ x, x < a.heap.size → x ∈ G → x ∈ H) : Fr a c H := (h.mono h1).trans k h2
end Go.Proofs.Ytncjckhcellehaa.Bits
