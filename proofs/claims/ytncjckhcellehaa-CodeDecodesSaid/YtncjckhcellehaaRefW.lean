/- The document's writer (sapperref03): what each method answers and leaves behind. Conditions: fewer than 2^46 bits. -/
import Derived.Test.YtncjckhcellehaaRefR
set_option maxRecDepth 100000
set_option linter.unusedVariables false
set_option linter.unusedSimpArgs false
namespace Go.Proofs.Ytncjckhcellehaa.Bits
open Go.RowKit Go.Proofs.Ytncjckhcellehaa.Lib Go.Proofs.Ytncjckhcellehaa.Num

/-- The document's writer in block g holds the m bits of N; q: the block of its bits. -/
def RW (w : World) (g : Nat) (N m : Nat) (q : Option Nat) : Prop :=
  ∃ A c, w.heap[g]? = some (.cells #[.slice A m c] 39 (0, 0)) ∧ w.ownsRow 0 4 1 (.slice A m c) m (bools N m) ∧ (Value.slice A m c).ownBlock = q ∧ N < 2 ^ m
theorem RW.frame {w w' : World} {g N m : Nat} {q : Option Nat} (hr : RW w g N m q) {F : List Nat} (hf : Fr w w' F) (hg : g ∉ F) (hq : ∀ k, q = some k → k ∉ F) : RW w' g N m q := by
  obtain ⟨A, c, hb, hown, rfl, hV⟩ := hr
  exact ⟨A, c, hf.blk hb hg, own_frame hown hf hq, rfl, hV⟩
theorem RW.lt {w : World} {g N m : Nat} {q : Option Nat} (hr : RW w g N m q) : g < w.heap.size ∧ ∀ k, q = some k → k < w.heap.size := by
  obtain ⟨A, c, hb, hown, rfl, hV⟩ := hr
  exact ⟨blk_lt hb, fun k hk => own_lt hown hk⟩
theorem RW.ne {w : World} {g N m : Nat} {q : Option Nat} (hr : RW w g N m q) : q ≠ some g := by
  obtain ⟨A, c, hb, hown, rfl, hV⟩ := hr
  exact own_ne hown hb (by decide)
theorem rw_new (w : World) : RW (w.alloc (.cells #[.slice none 0 0] 39)) w.heap.size 0 0 none :=
  ⟨none, 0, blk_new w _, own_nil _ _ _ _, rfl, by simp⟩
section
variable {g N m : Nat} {q : Option Nat}
/-- behind an append of one bit -/
theorem wbit_stored {w w1 : World} {A : Option Addr} {c : Nat} {A' : Option Addr} {c' : Nat} {bt : Bool} (hb : w.heap[g]? = some (.cells #[.slice A m c] 39 (0, 0)))
    (hown : w.ownsRow 0 4 1 (.slice A m c) m (bools N m)) (hV : N < 2 ^ m) (O : Obj)
    (hown' : w1.ownsRow 0 4 1 (.slice A' (m + 1) c') (m + 1) (bools N m ++ [.bool bt])) (hg : (w.alloc O).grownBy w1 (Value.slice A m c).ownBlock) (haft : Aft (w.alloc O) (Value.slice A m c).ownBlock (Value.slice A' (m + 1) c').ownBlock) :
    RW (w1.setCell ⟨g, 0, none⟩ (.slice A' (m + 1) c')) g (N + bt.toNat * 2 ^ m) (m + 1) (Value.slice A' (m + 1) c').ownBlock ∧ Aft w (Value.slice A m c).ownBlock (Value.slice A' (m + 1) c').ownBlock ∧
      Fr w (w1.setCell ⟨g, 0, none⟩ (.slice A' (m + 1) c')) (g :: (Value.slice A m c).ownBlock.toList) := by
  have hb1 := blk_grown hg (blk_alloc hb O) (own_ne hown hb (by decide)).symm
  have hne := own_ne hown' hb1 (by decide)
  rw [bools_snoc hV] at hown'
  refine ⟨⟨A', c', by simpa using blk_set hb1 0 (.slice A' (m + 1) c'), own_setFar hown' _ hne, rfl, grow_lt hV (by cases bt <;> decide)⟩, ?_, ?_⟩
  · rcases haft with e | ⟨k, e, hk⟩
    · exact .inl e
    · exact .inr ⟨k, e, by simp at hk; omega⟩
  · exact (((Fr.refl w _).alloc O).grown hg (fun k hk => .inl (by simp [hk]))).setCell _ (.inl (by simp))
theorem hand_bit {v i : Nat} (hv : v < 2 ^ 64) : (Go.bits .and .u64 ((v : Int) / 2 ^ i) 1 == 1) = v.testBit i := by
  have hle : v / 2 ^ i ≤ v := Nat.div_le_self _ _
  rw [div_cast, n64and1 (by omega), Nat.testBit_eq_decide_div_mod_eq, Bool.eq_iff_iff]
  simp only [beq_iff_eq, decide_eq_true_eq]
  omega
end
end Go.Proofs.Ytncjckhcellehaa.Bits
