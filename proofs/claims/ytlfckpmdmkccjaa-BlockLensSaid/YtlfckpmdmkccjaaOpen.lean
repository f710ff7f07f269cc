/- Arguments opened: what a reading says of memory. No condition. -/
import Derived.Test.YtlfckpmdmkccjaaRows
import Derived.Test.YtlfckpmdmkccjaaLib
import Derived.ProofKit
import Derived.OpenShut
import Derived.Deep.Slices
import Derived.SizedLaws
set_option maxRecDepth 100000
set_option linter.unusedVariables false
set_option linter.unusedSimpArgs false
namespace Go.Proofs.Ytlfckpmdmkccjaa.bulks
theorem one_le {H : Type} (d : DataW H) : 1 ≤ Rows.uptoBulk d := by
  cases d with
  | lit l => cases l <;> simp [Rows.uptoBulk]
  | nil => simp [Rows.uptoBulk]
  | ptr d => simp [Rows.uptoBulk]
  | slice elems spare => simp [Rows.uptoBulk]
  | agg parts => simp [Rows.uptoBulk]
  | iface t d => simp [Rows.uptoBulk]
  | map entries => simp [Rows.uptoBulk]
  | held h => simp [Rows.uptoBulk]
theorem part_le {H : Type} {d : DataW H} {l : List (DataW H)} (h : d ∈ l) : Rows.uptoBulk d ≤ Rows.uptoBulkAll l := by
  induction l with
  | nil => cases h
  | cons x r ih =>
    simp only [Rows.uptoBulkAll]
    cases List.mem_cons.1 h with
    | inl e => subst e; omega
    | inr e => have := ih e; omega
theorem length_le {H : Type} (l : List (DataW H)) : l.length ≤ Rows.uptoBulkAll l := by
  induction l with
  | nil => simp [Rows.uptoBulkAll]
  | cons x r ih => have := one_le x; simp only [Rows.uptoBulkAll, List.length_cons]; omega
end Go.Proofs.Ytlfckpmdmkccjaa.bulks
namespace Go.Proofs.Ytlfckpmdmkccjaa.Open
open Go.RowKit Go.ChangeShapes Go.WideShapes Go.Proofs.Ytlfckpmdmkccjaa.Lib
section
variable {H : Type} {enc : TypeId × Value → H} {P : Program} {W : World} {t e : TypeId} {fuel : Nat}

theorem sl_cells {a : Addr} {vs : List Value} (hc : ∀ i, i < vs.length → W.cell? (a.add i) = vs[i]?) :
    ∃ q, Sl W (some a) vs q ∧ ∀ b, q = some b → b < W.heap.size := by
  by_cases h0 : 0 < vs.length
  · have h1 := hc 0 h0
    rw [List.getElem?_eq_getElem h0] at h1
    have hsp : a.spot = none := by
      have := spot_none h1
      rwa [show a.add 0 = a from by simp [Addr.add]] at this
    refine ⟨some a.block, fun _ => ⟨a.block, a.off, by cases a; simp at hsp; subst hsp; rfl, rfl, fun j hj => ?_⟩, fun b hb => ?_⟩
    · rw [show (⟨a.block, a.off + j, none⟩ : Addr) = a.add j from by cases a; simp at hsp; subst hsp; rw [Addr.add_lit], hc j hj]
    · cases hb
      have h2 := World.block_lt_of_cell? W _ h1
      rwa [show (a.add 0).block = a.block from by unfold Addr.add; split <;> rfl] at h2
  · have : vs = [] := List.eq_nil_of_length_eq_zero (by omega)
    subst this
    exact ⟨none, Sl.nil _ _ _, fun b hb => by cases hb⟩
theorem open_nums {k : IntKind} {a : Option Addr} {len cap : Nat} {d : DataW H} {p : List MemPlace} (ht : P.underlying t = some (.slice e)) (he : P.underlying e = some (.int k)) (hc : P.cellsOf e = 1)
    (h : DataW.Trod enc P W 0 (fun _ => true) true t (.slice a len cap) d p) :
    ∃ (xs : List Int) (q : Option Nat), SlArg W a len cap (xs.map (Value.int k)) q ∧ (∀ x ∈ xs, (Lit.int k x).wf = true) ∧ len + 1 ≤ Rows.uptoBulk d := by
  obtain ⟨fuel, hf⟩ := h
  rcases open_ints ht he hc hf with ⟨hcs, hx⟩ | ⟨x, l, c, zs, hcs, _, hl, hm, hz, hx, hcell, hwz⟩
  · simp [Value.cells] at hcs
    obtain ⟨rfl, rfl, rfl⟩ := hcs
    exact ⟨[], none, ⟨rfl, Nat.le_refl _, Nat.zero_le _, fun _ => ⟨rfl, rfl⟩, Sl.nil _ _ _, fun b hb => by cases hb⟩, fun x hx => by simp at hx, bulks.one_le d⟩
  · simp [Value.cells] at hcs
    obtain ⟨rfl, rfl, rfl⟩ := hcs
    obtain ⟨rfl, _⟩ := Prod.mk.inj hx
    have hlz : len ≤ zs.length := by rw [hz]; simp; exact hl
    obtain ⟨q, hq, hlt⟩ := sl_cells (W := W) (a := x) (vs := (zs.take len).map (Value.int k)) (fun i hi => by
      simp only [List.length_map, List.length_take] at hi
      have h1 : i < zs.length := by omega
      have h2 : i < len := by omega
      rw [hcell i h1, List.getElem?_map, List.getElem?_take, if_pos h2, List.getElem?_eq_getElem h1]
      simp [List.getD, h1])
    refine ⟨zs.take len, q, ⟨by simp; omega, hl, hm, (fun h => by cases h), hq, hlt⟩, fun y hy => hwz y (List.mem_of_mem_take hy), ?_⟩
    have := bulks.length_le (lits (H := H) k (zs.take len))
    simp only [Rows.uptoBulk]
    have e : (lits (H := H) k (zs.take len)).length = len := by simp [lits]; omega
    omega
theorem sl_form {v : Value} {x : DataW H × List MemPlace} {spare : Nat → Bool} {held : Bool} {base : Nat} (ht : P.underlying t = some (.slice e)) (h : DataW.trod enc P W base spare held fuel t [v] = some x) : ∃ (A : Option Addr) (n c : Nat), v = .slice A n c ∧ n ≤ c := by
  rcases DataW.trod_slice ht h with ⟨h0, _⟩ | ⟨a, len, cap, elems, rest, n, _, h0, _, _, hl, _⟩
  · simp at h0
    exact ⟨none, 0, 0, h0, Nat.le_refl _⟩
  · simp at h0
    exact ⟨some a, len, cap, h0, hl⟩
theorem sized_nums {base : Nat} {spare : Nat → Bool} {held : Bool} {k : IntKind} {a : Option Addr} {len cap : Nat} {d : DataW H} {ps : List MemPlace} {ts : List TypeId} {ds : List (DataW H)} {j : Nat}
    (hsz : (DataW.weightsEach P ts ds).all (· ≤ reachBytes) = true) (ht : ts[j]? = some t) (hd : ds[j]? = some d) (hu : P.underlying t = some (.slice e)) (he : P.underlying e = some (.int k)) (hc : P.cellsOf e = 1) {B : Nat} (hB : P.bytesOf e = B)
    (h : DataW.Trod enc P W base spare held t (.slice a len cap) d ps) : len * B ≤ 140737488351232 := by
  obtain ⟨fuel, hf⟩ := h
  rcases open_ints hu he hc hf with ⟨hcs, _⟩ | ⟨x, l, c, zs, hcs, _, hl, _, hz, hx, _, _⟩
  · simp [Value.cells] at hcs
    obtain ⟨rfl, rfl, rfl⟩ := hcs
    simp
  · simp [Value.cells] at hcs
    obtain ⟨rfl, rfl, rfl⟩ := hcs
    obtain ⟨hx, _⟩ := Prod.mk.inj hx
    subst hx
    have z := sized_slice hsz ht hd hu
    rw [hB] at z
    have hl2 : len ≤ zs.length := by
      rw [hz]
      split
      · exact hl
      · exact Nat.le_refl _
    have h1 : (lits (H := H) k (zs.take len)).length + (lits (H := H) k (zs.drop len)).length = zs.length := by
      simp [lits]
      omega
    rw [h1] at z
    exact Nat.le_trans (Nat.mul_le_mul_right _ hl2) z
/-- A slice of whatever elements: one by one; of each element's reading R is known. -/
theorem open_rows_w {α : Type} (enc' : α → List Value) (sz : Nat) (hel : ∀ x, (enc' x).length = sz) (hsz : P.cellsOf e = sz) (hz : 0 < sz) (Q : α → Prop) (μ : α → Nat) (R : DataW H → Prop)
    (elem : ∀ (n : Nat) (cs : List Value) (x : DataW H × List MemPlace), DataW.trod enc P W 0 (fun _ => true) true n e cs = some x → R x.1 → ∃ y, cs = enc' y ∧ Q y ∧ μ y ≤ Rows.uptoBulk x.1)
    {a : Option Addr} {len cap : Nat} {d : DataW H} {p : List MemPlace} (ht : P.underlying t = some (.slice e)) (h : DataW.Trod enc P W 0 (fun _ => true) true t (.slice a len cap) d p) (hR : ∀ es sp, d = .slice es sp → ∀ x ∈ es, R x) :
    ∃ (xs : List α) (q : Option Nat), xs.length = len ∧ len ≤ cap ∧ cap ≤ maxLen ∧ (a = none → len = 0 ∧ cap = 0) ∧ Sl W a (xs.flatMap enc') q ∧ (∀ b, q = some b → b < W.heap.size) ∧ (∀ x ∈ xs, Q x) ∧ (xs.map μ).sum + 1 ≤ Rows.uptoBulk d := by
  obtain ⟨fuel, hf⟩ := h
  rcases DataW.trod_slice ht hf with ⟨hcs, hx⟩ | ⟨x, l, c, elems, rest, n, _, hcs, hx, hb, hl, hm, hlen, hel', hsp, hns⟩
  · simp [Value.cells] at hcs
    obtain ⟨rfl, rfl, rfl⟩ := hcs
    exact ⟨[], none, rfl, Nat.le_refl _, Nat.zero_le _, fun _ => ⟨rfl, rfl⟩, Sl.nil _ _ _, fun b hb => (by cases hb), fun x hx => (by simp at hx), bulks.one_le d⟩
  · simp [Value.cells] at hcs
    obtain ⟨rfl, rfl, rfl⟩ := hcs
    obtain ⟨rfl, _⟩ := Prod.mk.inj hx
    rw [hsz] at hel'
    -- one by one
    have key : ∀ (k : Nat), k ≤ len → ∃ xs : List α, xs.length = k ∧ (∀ i (hi : i < xs.length) j, j < sz → W.cell? (x.add (i * sz + j)) = (enc' xs[i])[j]?) ∧ (∀ y ∈ xs, Q y) ∧ (xs.map μ).sum ≤ Rows.uptoBulkAll ((elems.take k).map (·.1)) := by
      intro k
      induction k with
      | zero => exact fun _ => ⟨[], rfl, fun i hi => absurd hi (Nat.not_lt_zero _), fun y hy => (by simp at hy), by simp [Rows.uptoBulkAll]⟩
      | succ k ih =>
        intro hk
        obtain ⟨xs, h1, h2, h3, h4⟩ := ih (by omega)
        have hke : k < elems.length := by omega
        have h5 := hel' k (by omega)
        rw [List.getElem?_eq_getElem hke, Option.bind_eq_some_iff] at h5
        obtain ⟨cs', h6, h7⟩ := h5
        obtain ⟨y, rfl, hQ, hμ⟩ := elem _ _ _ h7 (hR _ _ rfl _ (List.mem_map.2 ⟨_, List.getElem_mem hke, rfl⟩))
        obtain ⟨_, h8, h9⟩ := World.cells?_some h6
        refine ⟨xs ++ [y], by simp [h1], fun i hi j hj => ?_, fun z hz => ?_, ?_⟩
        · by_cases hik : i < xs.length
          · rw [List.getElem_append_left hik]; exact h2 i hik j hj
          · obtain rfl : i = k := by simp at hi; omega
            rw [List.getElem_append_right (by omega)]
            simp only [h1, Nat.sub_self, List.getElem_cons_zero]
            have := h9 j hj
            rw [← this]
            congr 1
            unfold Addr.add
            by_cases e1 : i * sz = 0 <;> by_cases e2 : j = 0 <;> simp [e1, e2, Nat.add_assoc]
        · rcases List.mem_append.1 hz with h | h
          · exact h3 z h
          · simp at h; subst h; exact hQ
        · rw [List.take_succ_eq_append_getElem hke]
          simp only [List.map_append, List.map_cons, List.map_nil, List.sum_append, List.sum_cons, List.sum_nil]
          have happ : ∀ l r : List (DataW H), Rows.uptoBulkAll (l ++ r) = Rows.uptoBulkAll l + Rows.uptoBulkAll r := by
            intro l r
            induction l with
            | nil => simp [Rows.uptoBulkAll]
            | cons x l ih => simp only [List.cons_append, Rows.uptoBulkAll, ih]; omega
          rw [happ]
          simp only [Rows.uptoBulkAll]
          omega
    obtain ⟨xs, h1, h2, h3, h4⟩ := key len (Nat.le_refl _)
    have hfl := flat_len enc' sz hel xs
    obtain ⟨q, hq, hlt⟩ := sl_cells (W := W) (a := x) (vs := xs.flatMap enc') (fun i hi => by
      rw [hfl] at hi
      have hd : i / sz < xs.length := by rw [Nat.div_lt_iff_lt_mul hz]; exact hi
      have := h2 (i / sz) hd (i % sz) (Nat.mod_lt _ hz)
      rw [← flat_get enc' sz hel xs _ _ hd (Nat.mod_lt _ hz)] at this
      rwa [Nat.mul_comm, Nat.div_add_mod] at this)
    refine ⟨xs, q, h1, hl, hm, fun h => (by cases h), hq, hlt, h3, ?_⟩
    rw [List.take_of_length_le (by omega)] at h4
    simp only [Rows.uptoBulk]
    omega
theorem open_rows {α : Type} (enc' : α → List Value) (sz : Nat) (hel : ∀ x, (enc' x).length = sz) (hsz : P.cellsOf e = sz) (hz : 0 < sz) (Q : α → Prop) (μ : α → Nat)
    (elem : ∀ (n : Nat) (cs : List Value) (x : DataW H × List MemPlace), DataW.trod enc P W 0 (fun _ => true) true n e cs = some x → ∃ y, cs = enc' y ∧ Q y ∧ μ y ≤ Rows.uptoBulk x.1)
    {a : Option Addr} {len cap : Nat} {d : DataW H} {p : List MemPlace} (ht : P.underlying t = some (.slice e)) (h : DataW.Trod enc P W 0 (fun _ => true) true t (.slice a len cap) d p) :
    ∃ (xs : List α) (q : Option Nat), xs.length = len ∧ len ≤ cap ∧ cap ≤ maxLen ∧ (a = none → len = 0 ∧ cap = 0) ∧ Sl W a (xs.flatMap enc') q ∧ (∀ b, q = some b → b < W.heap.size) ∧ (∀ x ∈ xs, Q x) ∧ (xs.map μ).sum + 1 ≤ Rows.uptoBulk d :=
  open_rows_w enc' sz hel hsz hz Q μ (fun _ => True) (fun n cs x h _ => elem n cs x h) ht h (fun _ _ _ _ _ => trivial)
theorem mem_weightsAll {H : Type} {P : Program} {e : TypeId} {x : DataW H} : ∀ {l : List (DataW H)}, x ∈ l → ∀ m ∈ x.weights P e, m ∈ DataW.weightsAll P e l := by
  intro l
  induction l with
  | nil => intro h; cases h
  | cons y l ih =>
    intro h m hm
    simp only [DataW.weightsAll, List.mem_append]
    rcases List.mem_cons.1 h with rfl | h
    · exact .inl hm
    · exact .inr (ih h m hm)
/-- an element of a sized slice is sized -/
theorem row_weights {H : Type} {P : Program} {ts : List TypeId} {ds : List (DataW H)} {j : Nat} {t e : TypeId} {es sp : List (DataW H)} (hsz : (DataW.weightsEach P ts ds).all (· ≤ reachBytes) = true) (ht : ts[j]? = some t) (hd : ds[j]? = some (.slice es sp)) (hu : P.underlying t = some (.slice e))
    {x : DataW H} (hx : x ∈ es) : (x.weights P e).all (· ≤ reachBytes) = true := by
  rw [List.all_eq_true]
  intro m hm
  refine List.all_eq_true.1 hsz _ (DataW.weights_mem_each ht hd m ?_)
  simp only [DataW.weights, hu, List.mem_cons, List.mem_append]
  exact .inr (.inl (mem_weightsAll hx m hm))
theorem agg_weights {H : Type} {P : Program} {t : TypeId} {fs : Array Field} {parts : List (DataW H)} (hu : P.underlying t = some (.struct fs)) (h : ((DataW.agg parts).weights P t).all (· ≤ reachBytes) = true) : (DataW.weightsEach P (fs.toList.map (·.type)) parts).all (· ≤ reachBytes) = true := by
  simpa only [DataW.weights, hu] using h
theorem sized_rows {base : Nat} {spare : Nat → Bool} {held : Bool} {a : Option Addr} {len cap : Nat} {d : DataW H} {ps : List MemPlace} {ts : List TypeId} {ds : List (DataW H)} {j : Nat}
    (hsz : (DataW.weightsEach P ts ds).all (· ≤ reachBytes) = true) (ht : ts[j]? = some t) (hd : ds[j]? = some d) (hu : P.underlying t = some (.slice e)) {B : Nat} (hB : P.bytesOf e = B)
    (h : DataW.Trod enc P W base spare held t (.slice a len cap) d ps) : len * B ≤ 140737488351232 := by
  obtain ⟨fuel, hf⟩ := h
  rcases DataW.trod_slice hu hf with ⟨hcs, hx⟩ | ⟨x, l, c, elems, rest, n, _, hcs, hx, hb, hl, hm, hlen, _, _, _⟩
  · simp [Value.cells] at hcs
    obtain ⟨rfl, rfl, rfl⟩ := hcs
    simp
  · simp [Value.cells] at hcs
    obtain ⟨rfl, rfl, rfl⟩ := hcs
    obtain ⟨rfl, _⟩ := Prod.mk.inj hx
    have z := sized_slice hsz ht hd hu
    rw [hB] at z
    simp only [List.length_map] at z
    refine Nat.le_trans (Nat.mul_le_mul_right _ ?_) z
    omega
end
end Go.Proofs.Ytlfckpmdmkccjaa.Open
