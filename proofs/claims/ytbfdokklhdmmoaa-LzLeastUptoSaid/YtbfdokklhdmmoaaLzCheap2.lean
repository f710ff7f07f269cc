/- The cheapest tokens, read off the table: plain Lean. No condition. -/
import Derived.Test.YtbfdokklhdmmoaaLzCheap
set_option linter.unusedVariables false
set_option linter.unusedSimpArgs false
namespace Go.Proofs.Ytbfdokklhdmmoaa.Lz

theorem descF_tok {d : List Int} {p w : Nat} {c : Pr} {least : Nat → Int} {Q : Tok → Prop} : ∀ (m : Nat) (s : Int × Tok), Q s.2 → (∀ i, i < m → p + (i + 3) ≤ d.length → near d p (i + 3) w ≠ 0 → Q ⟨0, ((i + 3 : Nat) : Int), (near d p (i + 3) w : Nat)⟩) → Q (descF d p w c least m s).2
  | 0, s, h, _ => h
  | m + 1, s, h, hq => by
    simp only [descF]
    split
    · rename_i e
      exact descF_tok m _ (hq m (Nat.lt_succ_self m) e.1 e.2.1) (fun i hi => hq i (by omega))
    · exact descF_tok m _ h (fun i hi => hq i (by omega))
/-- what stands first at a place -/
theorem tab_tok {d : List Int} {w : Nat} {c : Pr} {p : Nat} (h : p < d.length) : (tab d w c p).2 = ⟨at0 d p, 0, 0⟩ ∨ ∃ l, 3 ≤ l ∧ l ≤ 258 ∧ p + l ≤ d.length ∧ near d p l w ≠ 0 ∧ (tab d w c p).2 = ⟨0, (l : Nat), (near d p l w : Nat)⟩ := by
  rw [tab_step h]
  unfold entry
  refine descF_tok (Q := fun t => t = ⟨at0 d p, 0, 0⟩ ∨ ∃ l, 3 ≤ l ∧ l ≤ 258 ∧ p + l ≤ d.length ∧ near d p l w ≠ 0 ∧ t = ⟨0, (l : Nat), (near d p l w : Nat)⟩) 256 _ (.inl rfl) (fun i hi h1 h2 => .inr ⟨i + 3, by omega, by omega, h1, h2, rfl⟩)
/-- the tokens, from a place on -/
def outF (d : List Int) (W : Nat) (c : Pr) : Nat → Nat → List Tok
  | 0, _ => []
  | f + 1, p => if p < d.length then (tab d W c p).2 :: outF d W c f (p + max (tab d W c p).2.len.toNat 1) else []
theorem outF_enough {d : List Int} {W : Nat} {c : Pr} : ∀ {f g p : Nat}, d.length ≤ f + p → d.length ≤ g + p → outF d W c f p = outF d W c g p
  | 0, g, p, hf, hg => by cases g <;> simp [outF]; omega
  | f + 1, 0, p, hf, hg => by simp [outF]; omega
  | f + 1, g + 1, p, hf, hg => by
    simp only [outF]
    split
    · have := Nat.le_max_right (tab d W c p).2.len.toNat 1
      rw [outF_enough (f := f) (g := g) (by omega) (by omega)]
    · rfl
theorem outF_end {d : List Int} {W : Nat} {c : Pr} {f p : Nat} (h : d.length ≤ p) : outF d W c f p = [] := by
  cases f <;> simp [outF]; omega
theorem outF_step {d : List Int} {W : Nat} {c : Pr} {f p : Nat} (h : p < d.length) (hf : d.length ≤ f + p) : outF d W c f p = (tab d W c p).2 :: outF d W c f (p + max (tab d W c p).2.len.toNat 1) := by
  rw [outF_enough (f := f) (g := f + 1) hf (by omega)]
  simp only [outF]
  rw [if_pos h]
end Go.Proofs.Ytbfdokklhdmmoaa.Lz
