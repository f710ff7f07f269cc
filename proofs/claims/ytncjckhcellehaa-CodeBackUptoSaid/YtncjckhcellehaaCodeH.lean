/- An encoder, a writer and the document's writer side by side. Conditions: none. -/
import Derived.Test.YtncjckhcellehaaCodeG
import Derived.Test.YtncjckhcellehaaCodeLives
import Derived.Test.YtncjckhcellehaaCodeHelp
import Derived.Test.YtncjckhcellehaaRefWB
set_option linter.unusedVariables false
set_option linter.unusedSimpArgs false
set_option maxRecDepth 100000
namespace Go.Proofs.Ytncjckhcellehaa.Code
open Go.RowKit Go.IntWalk Go.Proofs.Ytncjckhcellehaa.Lib Go.Proofs.Ytncjckhcellehaa.Ints Go.Proofs.Ytncjckhcellehaa.Num

theorem bools_app {N m : Nat} (hN : N < 2 ^ m) (V n : Nat) : Bits.bools N m ++ Bits.bools (V % 2 ^ n) n = Bits.bools (N + V % 2 ^ n * 2 ^ m) (m + n) := by
  induction n with
  | zero => simp [Bits.bools, Nat.mod_one]
  | succ n ih =>
    have e : Bits.bools (V % 2 ^ (n + 1)) (n + 1) = Bits.bools (V % 2 ^ n) n ++ [.bool (V.testBit n)] := by
      rw [Bits.bools_snoc (Nat.mod_lt _ (Nat.pow_pos (by omega))), ← Bits.low_bit]
    have hlt : N + V % 2 ^ n * 2 ^ m < 2 ^ (m + n) := by
      have h1 : V % 2 ^ n < 2 ^ n := Nat.mod_lt _ (Nat.pow_pos (by omega))
      have h2 : (V % 2 ^ n + 1) * 2 ^ m ≤ 2 ^ n * 2 ^ m := Nat.mul_le_mul_right _ h1
      rw [Nat.add_mul, Nat.one_mul, ← Nat.pow_add, Nat.add_comm n m] at h2
      omega
    rw [e, ← List.append_assoc, ih, Bits.bools_snoc hlt, Bits.low_bit, Nat.add_mul, Nat.mul_assoc, ← Nat.pow_add, Nat.add_comm m n, Nat.add_assoc, Nat.add_assoc, show n + (m + 1) = m + (n + 1) from by omega]
theorem put_nilw {w : World} {g ga da db : Nat} {B : Option Addr} {lens : List Int} {L : List Nat} (s : Int) (hE : En w g ga da B db lens L) :
    Calls Try.prog 17 #[.pointer (some ⟨g, 0, none⟩), .pointer none, .int .i64 s] w fun e w' => e = .returned (.int .i64 2) ∧ w = w' := by
  have c0 := blk_cell hE.blk 0
  simp only [List.getElem?_toArray, List.getElem?_cons_zero, List.getElem?_cons_succ] at c0
  clear hE
  have n0 := fun w ca => Lib.run_eql_slice_nil (P := Try.prog) w 23 3 (some ⟨ga, 0, none⟩) lens.length ca 0 0 Try.underlying23
  go_enter Try.func17, Try.ntmps17
  go_wp2
  go_ret
  exact ⟨rfl, rfl⟩
/-- where CodeEncodes stands -/
structure Es (w0 w : World) (g ga da : Nat) (B : Option Addr) (db : Nat) (lens : List Int) (L : List Nat) (gw : Nat) (q : Option Nat) (gx : Nat) (p : Option Nat) (N m : Nat) : Prop where
  en : En w g ga da B db lens L
  tl : Bits.Tl w gw 36 N m q
  rw_ : Bits.RW w gx N m p
  fr : Fr w0 w []
  new : w0.heap.size ≤ gw ∧ w0.heap.size ≤ gx ∧ (∀ y, q = some y → w0.heap.size ≤ y) ∧ (∀ y, p = some y → w0.heap.size ≤ y)
section
variable {w0 w w' : World} {g ga da db gw gx N m : Nat} {B : Option Addr} {lens : List Int} {L : List Nat} {q p : Option Nat}
theorem Es.call (h : Es w0 w g ga da B db lens L gw q gx p N m) (hf : Fr w w' []) : Es w0 w' g ga da B db lens L gw q gx p N m :=
  ⟨h.en.frame hf (by simp), h.tl.frame hf (by simp) (by simp), h.rw_.frame hf (by simp) (by simp), h.fr.trans hf (by simp), h.new⟩
theorem Es.qtype (h : Es w0 w g ga da B db lens L gw q gx p N m) {y : Nat} (hy : q = some y) : ∃ cs, w.heap[y]? = some (.cells cs 5 (0, 0)) := by
  obtain ⟨sv, _, ho, hq, _⟩ := h.tl
  rw [hy] at hq
  exact own_type ho hq
theorem Es.ptype (h : Es w0 w g ga da B db lens L gw q gx p N m) {y : Nat} (hy : p = some y) : ∃ cs, w.heap[y]? = some (.cells cs 4 (0, 0)) := by
  obtain ⟨A, c, _, ho, hp, _⟩ := h.rw_
  rw [hy] at hp
  exact own_type ho hp
/-- behind a Put of the program -/
theorem Es.put1 (h : Es w0 w g ga da B db lens L gw q gx p N m) (hf : Fr w w' (gw :: q.toList)) : En w' g ga da B db lens L ∧ Bits.RW w' gx N m p ∧ Fr w0 w' [] := by
  obtain ⟨sv, htb, _⟩ := h.tl
  obtain ⟨A, c, hrb, hro, hrp, _⟩ := h.rw_
  have key : ∀ (y : Nat) (cs : Array Value) (t : TypeId), w.heap[y]? = some (.cells cs t (0, 0)) → t ≠ 36 → t ≠ 5 → y ∉ gw :: q.toList := by
    intro y cs t hy h1 h2 hm
    rcases List.mem_cons.1 hm with e | hm
    · exact blk_ne hy htb h1 e
    · obtain ⟨ds, hds⟩ := h.qtype (by simpa using hm)
      exact blk_ne hy hds h2 rfl
  obtain ⟨ds, hds⟩ := own_type h.en.lens_ (k := ga) rfl
  refine ⟨h.en.frame hf ⟨key _ _ _ h.en.blk (by decide) (by decide), key _ _ _ hds (by decide) (by decide), fun y hy => ?_⟩, h.rw_.frame hf (key _ _ _ hrb (by decide) (by decide)) (fun y hy => ?_), h.fr.trans hf (fun x hx hm => ?_)⟩
  · obtain ⟨es, hes⟩ := own_type h.en.codes_ hy
    exact key _ _ _ hes (by decide) (by decide)
  · obtain ⟨es, hes⟩ := h.ptype hy
    exact key _ _ _ hes (by decide) (by decide)
  · rcases List.mem_cons.1 hm with e | hm
    · have := h.new.1; omega
    · have := h.new.2.2.1 x (by simpa using hm); omega
/-- behind an append of the document's -/
theorem es_put2 (hen : En w g ga da B db lens L) (htl : Bits.Tl w gw 36 N m q) (hrp : ∀ y, p = some y → ∃ cs, w.heap[y]? = some (.cells cs 4 (0, 0))) (hrb : ∃ cs, w.heap[gx]? = some (.cells cs 39 (0, 0))) (hf : Fr w w' (gx :: p.toList)) : En w' g ga da B db lens L ∧ Bits.Tl w' gw 36 N m q := by
  obtain ⟨sv, htb, hto, htq, _⟩ := id htl
  obtain ⟨cx, hrb⟩ := hrb
  have key : ∀ (y : Nat) (cs : Array Value) (t : TypeId), w.heap[y]? = some (.cells cs t (0, 0)) → t ≠ 39 → t ≠ 4 → y ∉ gx :: p.toList := by
    intro y cs t hy h1 h2 hm
    rcases List.mem_cons.1 hm with e | hm
    · exact blk_ne hy hrb h1 e
    · obtain ⟨ds, hds⟩ := hrp y (by simpa using hm)
      exact blk_ne hy hds h2 rfl
  obtain ⟨ds, hds⟩ := own_type hen.lens_ (k := ga) rfl
  refine ⟨hen.frame hf ⟨key _ _ _ hen.blk (by decide) (by decide), key _ _ _ hds (by decide) (by decide), fun y hy => ?_⟩, htl.frame hf (key _ _ _ htb (by decide) (by decide)) (fun y hy => ?_)⟩
  · obtain ⟨es, hes⟩ := own_type hen.codes_ hy
    exact key _ _ _ hes (by decide) (by decide)
  · rw [← htq] at hy
    obtain ⟨es, hes⟩ := own_type hto hy
    exact key _ _ _ hes (by decide) (by decide)
theorem put_any (s : Int) (k cd : Nat) (er : Int) (hk : k = bitsOf lens s) (hcd : cd = codeOf lens s) (her : er = if k = 0 then 53 else 0) (h : Es w0 w g ga da B db lens L gw q gx p N m) (hm : m + 15 ≤ 1125899906842624) :
    Calls Try.prog 17 #[.pointer (some ⟨g, 0, none⟩), .pointer (some ⟨gw, 0, none⟩), .int .i64 s] w fun e w' => e = .returned (.int .i64 er) ∧ ∃ q', Bits.Tl w' gw 36 (N + rv cd k * 2 ^ m) (m + k) q' ∧ (∀ y, q' = some y → w0.heap.size ≤ y) ∧ En w' g ga da B db lens L ∧ Bits.RW w' gx N m p ∧ Fr w0 w' [] ∧ Fr w w' (gw :: q.toList) := by
  by_cases h0 : k = 0
  · subst h0
    rw [her, if_pos rfl]
    refine (put_none s hk.symm gw h.en).mono ?_
    rintro e w2 ⟨rfl, rfl⟩
    exact ⟨rfl, q, by simpa [rv] using h.tl, h.new.2.2.1, h.en, h.rw_, h.fr, Fr.refl _ _⟩
  · rw [her, if_neg h0]
    refine (put_some s k cd hk hcd h0 gw h.en hm h.tl).mono ?_
    rintro e w2 ⟨rfl, q', h1, h2, h3⟩
    obtain ⟨e1, e2, e3⟩ := h.put1 h3
    refine ⟨rfl, q', h1, fun y hy => ?_, e1, e2, e3, h3⟩
    rcases h2 with e | ⟨z, e, hz⟩
    · rw [e] at hy; exact h.new.2.2.1 y hy
    · rw [e] at hy; cases hy
      have := h.fr.size
      omega
end
end Go.Proofs.Ytncjckhcellehaa.Code
