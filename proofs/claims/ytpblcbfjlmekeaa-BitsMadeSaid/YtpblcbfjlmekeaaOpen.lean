/- Arguments opened: what a reading says of memory. No condition. -/
import Derived.Test.YtpblcbfjlmekeaaRows
import Derived.Test.YtpblcbfjlmekeaaLib
import Derived.ProofKit
import Derived.OpenShut
import Derived.Deep.Slices
import Derived.SizedLaws
set_option linter.unusedVariables false
set_option linter.unusedSimpArgs false
namespace Go.Proofs.Ytpblcbfjlmekeaa.bulks
theorem one_le {H : Type} (d : DataW H) : 1 ≤ Rows.uptoBulk d := by
  cases d with
  | lit l => cases l <;> simp [Rows.uptoBulk]
  | nil => simp [Rows.uptoBulk]
  | ptr d => simp [Rows.uptoBulk]
  | slice elems spare => simp [Rows.uptoBulk]
  | agg parts => simp [Rows.uptoBulk]
  | iface t d => simp [Rows.uptoBulk]
  | map entries => simp [Rows.uptoBulk]
  | held h => simp [Rows.uptoBulk]
theorem part_le {H : Type} {d : DataW H} {l : List (DataW H)} (h : d ∈ l) : Rows.uptoBulk d ≤ Rows.uptoBulkAll l := by
  induction l with
  | nil => cases h
  | cons x r ih =>
    simp only [Rows.uptoBulkAll]
    cases List.mem_cons.1 h with
    | inl e => subst e; omega
    | inr e => have := ih e; omega
theorem length_le {H : Type} (l : List (DataW H)) : l.length ≤ Rows.uptoBulkAll l := by
  induction l with
  | nil => simp [Rows.uptoBulkAll]
  | cons x r ih => have := one_le x; simp only [Rows.uptoBulkAll, List.length_cons]; omega
end Go.Proofs.Ytpblcbfjlmekeaa.bulks
namespace Go.Proofs.Ytpblcbfjlmekeaa.Open
open Go.RowKit Go.ChangeShapes Go.WideShapes Go.Proofs.Ytpblcbfjlmekeaa.Lib
section
variable {H : Type} {enc : TypeId × Value → H} {P : Program} {W : World} {t e : TypeId} {fuel : Nat}

theorem sl_cells {a : Addr} {vs : List Value} (hc : ∀ i, i < vs.length → W.cell? (a.add i) = vs[i]?) :
    ∃ q, Sl W (some a) vs q ∧ ∀ b, q = some b → b < W.heap.size := by
  by_cases h0 : 0 < vs.length
  · have h1 := hc 0 h0
    rw [List.getElem?_eq_getElem h0] at h1
    have hsp : a.spot = none := by
      have := spot_none h1
      rwa [show a.add 0 = a from by simp [Addr.add]] at this
    refine ⟨some a.block, fun _ => ⟨a.block, a.off, by cases a; simp at hsp; subst hsp; rfl, rfl, fun j hj => ?_⟩, fun b hb => ?_⟩
    · rw [show (⟨a.block, a.off + j, none⟩ : Addr) = a.add j from by cases a; simp at hsp; subst hsp; rw [Addr.add_lit], hc j hj]
    · cases hb
      have h2 := World.block_lt_of_cell? W _ h1
      rwa [show (a.add 0).block = a.block from by unfold Addr.add; split <;> rfl] at h2
  · have : vs = [] := List.eq_nil_of_length_eq_zero (by omega)
    subst this
    exact ⟨none, Sl.nil _ _ _, fun b hb => by cases hb⟩
theorem open_nums {k : IntKind} {a : Option Addr} {len cap : Nat} {d : DataW H} {p : List MemPlace} (ht : P.underlying t = some (.slice e)) (he : P.underlying e = some (.int k)) (hc : P.cellsOf e = 1)
    (h : DataW.Trod enc P W 0 (fun _ => true) true t (.slice a len cap) d p) :
    ∃ (xs : List Int) (q : Option Nat), SlArg W a len cap (xs.map (Value.int k)) q ∧ (∀ x ∈ xs, (Lit.int k x).wf = true) ∧ len + 1 ≤ Rows.uptoBulk d := by
  obtain ⟨fuel, hf⟩ := h
  rcases open_ints ht he hc hf with ⟨hcs, hx⟩ | ⟨x, l, c, zs, hcs, _, hl, hm, hz, hx, hcell, hwz⟩
  · simp [Value.cells] at hcs
    obtain ⟨rfl, rfl, rfl⟩ := hcs
    exact ⟨[], none, ⟨rfl, Nat.le_refl _, Nat.zero_le _, fun _ => ⟨rfl, rfl⟩, Sl.nil _ _ _, fun b hb => by cases hb⟩, fun x hx => by simp at hx, bulks.one_le d⟩
  · simp [Value.cells] at hcs
    obtain ⟨rfl, rfl, rfl⟩ := hcs
    obtain ⟨rfl, _⟩ := Prod.mk.inj hx
    have hlz : len ≤ zs.length := by rw [hz]; simp; exact hl
    obtain ⟨q, hq, hlt⟩ := sl_cells (W := W) (a := x) (vs := (zs.take len).map (Value.int k)) (fun i hi => by
      simp only [List.length_map, List.length_take] at hi
      have h1 : i < zs.length := by omega
      have h2 : i < len := by omega
      rw [hcell i h1, List.getElem?_map, List.getElem?_take, if_pos h2, List.getElem?_eq_getElem h1]
      simp [List.getD, h1])
    refine ⟨zs.take len, q, ⟨by simp; omega, hl, hm, (fun h => by cases h), hq, hlt⟩, fun y hy => hwz y (List.mem_of_mem_take hy), ?_⟩
    have := bulks.length_le (lits (H := H) k (zs.take len))
    simp only [Rows.uptoBulk]
    have e : (lits (H := H) k (zs.take len)).length = len := by simp [lits]; omega
    omega
theorem sl_form {v : Value} {x : DataW H × List MemPlace} {spare : Nat → Bool} {held : Bool} {base : Nat} (ht : P.underlying t = some (.slice e)) (h : DataW.trod enc P W base spare held fuel t [v] = some x) : ∃ (A : Option Addr) (n c : Nat), v = .slice A n c ∧ n ≤ c := by
  rcases DataW.trod_slice ht h with ⟨h0, _⟩ | ⟨a, len, cap, elems, rest, n, _, h0, _, _, hl, _⟩
  · simp at h0
    exact ⟨none, 0, 0, h0, Nat.le_refl _⟩
  · simp at h0
    exact ⟨some a, len, cap, h0, hl⟩
theorem sized_nums {base : Nat} {spare : Nat → Bool} {held : Bool} {k : IntKind} {a : Option Addr} {len cap : Nat} {d : DataW H} {ps : List MemPlace} {ts : List TypeId} {ds : List (DataW H)} {j : Nat}
    (hsz : (DataW.weightsEach P ts ds).all (· ≤ reachBytes) = true) (ht : ts[j]? = some t) (hd : ds[j]? = some d) (hu : P.underlying t = some (.slice e)) (he : P.underlying e = some (.int k)) (hc : P.cellsOf e = 1) {B : Nat} (hB : P.bytesOf e = B)
    (h : DataW.Trod enc P W base spare held t (.slice a len cap) d ps) : len * B ≤ 140737488351232 := by
  obtain ⟨fuel, hf⟩ := h
  rcases open_ints hu he hc hf with ⟨hcs, _⟩ | ⟨x, l, c, zs, hcs, _, hl, _, hz, hx, _, _⟩
  · simp [Value.cells] at hcs
    obtain ⟨rfl, rfl, rfl⟩ := hcs
    simp
  · simp [Value.cells] at hcs
    obtain ⟨rfl, rfl, rfl⟩ := hcs
    obtain ⟨hx, _⟩ := Prod.mk.inj hx
    subst hx
    have z := sized_slice hsz ht hd hu
    rw [hB] at z
    have hl2 : len ≤ zs.length := by
      rw [hz]
      split
      · exact hl
      · exact Nat.le_refl _
    have h1 : (lits (H := H) k (zs.take len)).length + (lits (H := H) k (zs.drop len)).length = zs.length := by
      simp [lits]
      omega
    rw [h1] at z
    exact Nat.le_trans (Nat.mul_le_mul_right _ hl2) z
end
end Go.Proofs.Ytpblcbfjlmekeaa.Open
