/- Texts of this claim, one behind the other: Open, CodeR, HeadTold, HeadShort, HeadDocA, CodePlain7. -/
import Derived.Test.YtofajcifjmhomaaRows
import Derived.Test.YtofajcifjmhomaaLib
import Derived.ProofKit
import Derived.OpenShut
import Derived.Deep.Slices
import Derived.SizedLaws
import Derived.Test.YtofajcifjmhomaaCodeB
import Derived.Test.YtofajcifjmhomaaCodePlain5
import Derived.Test.YtofajcifjmhomaaHeadPlanB
import Derived.Test.YtofajcifjmhomaaLensE
import Derived.Deep.CutBlock
import Derived.Deep.CutRange
import Derived.Test.YtofajcifjmhomaaCodePlain4
import Derived.Test.YtofajcifjmhomaaCodePlain6
import Derived.Test.YtofajcifjmhomaaBackNum
/- Arguments opened: what a reading says of memory. No condition. -/
set_option maxRecDepth 100000
set_option linter.unusedVariables false
set_option linter.unusedSimpArgs false
namespace Go.Proofs.Ytofajcifjmhomaa.bulks
theorem one_le {H : Type} (d : DataW H) : 1 ≤ Rows.uptoBulk d := by
  cases d with
  | lit l => cases l <;> simp [Rows.uptoBulk]
  | nil => simp [Rows.uptoBulk]
  | ptr d => simp [Rows.uptoBulk]
  | slice elems spare => simp [Rows.uptoBulk]
  | agg parts => simp [Rows.uptoBulk]
  | iface t d => simp [Rows.uptoBulk]
  | map entries => simp [Rows.uptoBulk]
  | held h => simp [Rows.uptoBulk]
theorem part_le {H : Type} {d : DataW H} {l : List (DataW H)} (h : d ∈ l) : Rows.uptoBulk d ≤ Rows.uptoBulkAll l := by
  induction l with
  | nil => cases h
  | cons x r ih =>
    simp only [Rows.uptoBulkAll]
    cases List.mem_cons.1 h with
    | inl e => subst e; omega
    | inr e => have := ih e; omega
theorem length_le {H : Type} (l : List (DataW H)) : l.length ≤ Rows.uptoBulkAll l := by
  induction l with
  | nil => simp [Rows.uptoBulkAll]
  | cons x r ih => have := one_le x; simp only [Rows.uptoBulkAll, List.length_cons]; omega
end Go.Proofs.Ytofajcifjmhomaa.bulks
namespace Go.Proofs.Ytofajcifjmhomaa.Open
open Go.RowKit Go.ChangeShapes Go.WideShapes Go.Proofs.Ytofajcifjmhomaa.Lib
section
variable {H : Type} {enc : TypeId × Value → H} {P : Program} {W : World} {t e : TypeId} {fuel : Nat}

theorem sl_cells {a : Addr} {vs : List Value} (hc : ∀ i, i < vs.length → W.cell? (a.add i) = vs[i]?) :
    ∃ q, Sl W (some a) vs q ∧ ∀ b, q = some b → b < W.heap.size := by
  by_cases h0 : 0 < vs.length
  · have h1 := hc 0 h0
    rw [List.getElem?_eq_getElem h0] at h1
    have hsp : a.spot = none := by
      have := spot_none h1
      rwa [show a.add 0 = a from by simp [Addr.add]] at this
    refine ⟨some a.block, fun _ => ⟨a.block, a.off, by cases a; simp at hsp; subst hsp; rfl, rfl, fun j hj => ?_⟩, fun b hb => ?_⟩
    · rw [show (⟨a.block, a.off + j, none⟩ : Addr) = a.add j from by cases a; simp at hsp; subst hsp; rw [Addr.add_lit], hc j hj]
    · cases hb
      have h2 := World.block_lt_of_cell? W _ h1
      rwa [show (a.add 0).block = a.block from by unfold Addr.add; split <;> rfl] at h2
  · have : vs = [] := List.eq_nil_of_length_eq_zero (by omega)
    subst this
    exact ⟨none, Sl.nil _ _ _, fun b hb => by cases hb⟩
theorem open_nums {k : IntKind} {a : Option Addr} {len cap : Nat} {d : DataW H} {p : List MemPlace} (ht : P.underlying t = some (.slice e)) (he : P.underlying e = some (.int k)) (hc : P.cellsOf e = 1)
    (h : DataW.Trod enc P W 0 (fun _ => true) true t (.slice a len cap) d p) :
    ∃ (xs : List Int) (q : Option Nat), SlArg W a len cap (xs.map (Value.int k)) q ∧ (∀ x ∈ xs, (Lit.int k x).wf = true) ∧ len + 1 ≤ Rows.uptoBulk d := by
  obtain ⟨fuel, hf⟩ := h
  rcases open_ints ht he hc hf with ⟨hcs, hx⟩ | ⟨x, l, c, zs, hcs, _, hl, hm, hz, hx, hcell, hwz⟩
  · simp [Value.cells] at hcs
    obtain ⟨rfl, rfl, rfl⟩ := hcs
    exact ⟨[], none, ⟨rfl, Nat.le_refl _, Nat.zero_le _, fun _ => ⟨rfl, rfl⟩, Sl.nil _ _ _, fun b hb => by cases hb⟩, fun x hx => by simp at hx, bulks.one_le d⟩
  · simp [Value.cells] at hcs
    obtain ⟨rfl, rfl, rfl⟩ := hcs
    obtain ⟨rfl, _⟩ := Prod.mk.inj hx
    have hlz : len ≤ zs.length := by rw [hz]; simp; exact hl
    obtain ⟨q, hq, hlt⟩ := sl_cells (W := W) (a := x) (vs := (zs.take len).map (Value.int k)) (fun i hi => by
      simp only [List.length_map, List.length_take] at hi
      have h1 : i < zs.length := by omega
      have h2 : i < len := by omega
      rw [hcell i h1, List.getElem?_map, List.getElem?_take, if_pos h2, List.getElem?_eq_getElem h1]
      simp [List.getD, h1])
    refine ⟨zs.take len, q, ⟨by simp; omega, hl, hm, (fun h => by cases h), hq, hlt⟩, fun y hy => hwz y (List.mem_of_mem_take hy), ?_⟩
    have := bulks.length_le (lits (H := H) k (zs.take len))
    simp only [Rows.uptoBulk]
    have e : (lits (H := H) k (zs.take len)).length = len := by simp [lits]; omega
    omega
theorem sl_form {v : Value} {x : DataW H × List MemPlace} {spare : Nat → Bool} {held : Bool} {base : Nat} (ht : P.underlying t = some (.slice e)) (h : DataW.trod enc P W base spare held fuel t [v] = some x) : ∃ (A : Option Addr) (n c : Nat), v = .slice A n c ∧ n ≤ c := by
  rcases DataW.trod_slice ht h with ⟨h0, _⟩ | ⟨a, len, cap, elems, rest, n, _, h0, _, _, hl, _⟩
  · simp at h0
    exact ⟨none, 0, 0, h0, Nat.le_refl _⟩
  · simp at h0
    exact ⟨some a, len, cap, h0, hl⟩
theorem sized_nums {base : Nat} {spare : Nat → Bool} {held : Bool} {k : IntKind} {a : Option Addr} {len cap : Nat} {d : DataW H} {ps : List MemPlace} {ts : List TypeId} {ds : List (DataW H)} {j : Nat}
    (hsz : (DataW.weightsEach P ts ds).all (· ≤ reachBytes) = true) (ht : ts[j]? = some t) (hd : ds[j]? = some d) (hu : P.underlying t = some (.slice e)) (he : P.underlying e = some (.int k)) (hc : P.cellsOf e = 1) {B : Nat} (hB : P.bytesOf e = B)
    (h : DataW.Trod enc P W base spare held t (.slice a len cap) d ps) : len * B ≤ 140737488351232 := by
  obtain ⟨fuel, hf⟩ := h
  rcases open_ints hu he hc hf with ⟨hcs, _⟩ | ⟨x, l, c, zs, hcs, _, hl, _, hz, hx, _, _⟩
  · simp [Value.cells] at hcs
    obtain ⟨rfl, rfl, rfl⟩ := hcs
    simp
  · simp [Value.cells] at hcs
    obtain ⟨rfl, rfl, rfl⟩ := hcs
    obtain ⟨hx, _⟩ := Prod.mk.inj hx
    subst hx
    have z := sized_slice hsz ht hd hu
    rw [hB] at z
    have hl2 : len ≤ zs.length := by
      rw [hz]
      split
      · exact hl
      · exact Nat.le_refl _
    have h1 : (lits (H := H) k (zs.take len)).length + (lits (H := H) k (zs.drop len)).length = zs.length := by
      simp [lits]
      omega
    rw [h1] at z
    exact Nat.le_trans (Nat.mul_le_mul_right _ hl2) z
/-- A slice of whatever elements: one by one; of each element's reading R is known. -/
theorem open_rows_w {α : Type} (enc' : α → List Value) (sz : Nat) (hel : ∀ x, (enc' x).length = sz) (hsz : P.cellsOf e = sz) (hz : 0 < sz) (Q : α → Prop) (μ : α → Nat) (R : DataW H → Prop)
    (elem : ∀ (n : Nat) (cs : List Value) (x : DataW H × List MemPlace), DataW.trod enc P W 0 (fun _ => true) true n e cs = some x → R x.1 → ∃ y, cs = enc' y ∧ Q y ∧ μ y ≤ Rows.uptoBulk x.1)
    {a : Option Addr} {len cap : Nat} {d : DataW H} {p : List MemPlace} (ht : P.underlying t = some (.slice e)) (h : DataW.Trod enc P W 0 (fun _ => true) true t (.slice a len cap) d p) (hR : ∀ es sp, d = .slice es sp → ∀ x ∈ es, R x) :
    ∃ (xs : List α) (q : Option Nat), xs.length = len ∧ len ≤ cap ∧ cap ≤ maxLen ∧ (a = none → len = 0 ∧ cap = 0) ∧ Sl W a (xs.flatMap enc') q ∧ (∀ b, q = some b → b < W.heap.size) ∧ (∀ x ∈ xs, Q x) ∧ (xs.map μ).sum + 1 ≤ Rows.uptoBulk d := by
  obtain ⟨fuel, hf⟩ := h
  rcases DataW.trod_slice ht hf with ⟨hcs, hx⟩ | ⟨x, l, c, elems, rest, n, _, hcs, hx, hb, hl, hm, hlen, hel', hsp, hns⟩
  · simp [Value.cells] at hcs
    obtain ⟨rfl, rfl, rfl⟩ := hcs
    exact ⟨[], none, rfl, Nat.le_refl _, Nat.zero_le _, fun _ => ⟨rfl, rfl⟩, Sl.nil _ _ _, fun b hb => (by cases hb), fun x hx => (by simp at hx), bulks.one_le d⟩
  · simp [Value.cells] at hcs
    obtain ⟨rfl, rfl, rfl⟩ := hcs
    obtain ⟨rfl, _⟩ := Prod.mk.inj hx
    rw [hsz] at hel'
    -- one by one
    have key : ∀ (k : Nat), k ≤ len → ∃ xs : List α, xs.length = k ∧ (∀ i (hi : i < xs.length) j, j < sz → W.cell? (x.add (i * sz + j)) = (enc' xs[i])[j]?) ∧ (∀ y ∈ xs, Q y) ∧ (xs.map μ).sum ≤ Rows.uptoBulkAll ((elems.take k).map (·.1)) := by
      intro k
      induction k with
      | zero => exact fun _ => ⟨[], rfl, fun i hi => absurd hi (Nat.not_lt_zero _), fun y hy => (by simp at hy), by simp [Rows.uptoBulkAll]⟩
      | succ k ih =>
        intro hk
        obtain ⟨xs, h1, h2, h3, h4⟩ := ih (by omega)
        have hke : k < elems.length := by omega
        have h5 := hel' k (by omega)
        rw [List.getElem?_eq_getElem hke, Option.bind_eq_some_iff] at h5
        obtain ⟨cs', h6, h7⟩ := h5
        obtain ⟨y, rfl, hQ, hμ⟩ := elem _ _ _ h7 (hR _ _ rfl _ (List.mem_map.2 ⟨_, List.getElem_mem hke, rfl⟩))
        obtain ⟨_, h8, h9⟩ := World.cells?_some h6
        refine ⟨xs ++ [y], by simp [h1], fun i hi j hj => ?_, fun z hz => ?_, ?_⟩
        · by_cases hik : i < xs.length
          · rw [List.getElem_append_left hik]; exact h2 i hik j hj
          · obtain rfl : i = k := by simp at hi; omega
            rw [List.getElem_append_right (by omega)]
            simp only [h1, Nat.sub_self, List.getElem_cons_zero]
            have := h9 j hj
            rw [← this]
            congr 1
            unfold Addr.add
            by_cases e1 : i * sz = 0 <;> by_cases e2 : j = 0 <;> simp [e1, e2, Nat.add_assoc]
        · rcases List.mem_append.1 hz with h | h
          · exact h3 z h
          · simp at h; subst h; exact hQ
        · rw [List.take_succ_eq_append_getElem hke]
          simp only [List.map_append, List.map_cons, List.map_nil, List.sum_append, List.sum_cons, List.sum_nil]
          have happ : ∀ l r : List (DataW H), Rows.uptoBulkAll (l ++ r) = Rows.uptoBulkAll l + Rows.uptoBulkAll r := by
            intro l r
            induction l with
            | nil => simp [Rows.uptoBulkAll]
            | cons x l ih => simp only [List.cons_append, Rows.uptoBulkAll, ih]; omega
          rw [happ]
          simp only [Rows.uptoBulkAll]
          omega
    obtain ⟨xs, h1, h2, h3, h4⟩ := key len (Nat.le_refl _)
    have hfl := flat_len enc' sz hel xs
    obtain ⟨q, hq, hlt⟩ := sl_cells (W := W) (a := x) (vs := xs.flatMap enc') (fun i hi => by
      rw [hfl] at hi
      have hd : i / sz < xs.length := by rw [Nat.div_lt_iff_lt_mul hz]; exact hi
      have := h2 (i / sz) hd (i % sz) (Nat.mod_lt _ hz)
      rw [← flat_get enc' sz hel xs _ _ hd (Nat.mod_lt _ hz)] at this
      rwa [Nat.mul_comm, Nat.div_add_mod] at this)
    refine ⟨xs, q, h1, hl, hm, fun h => (by cases h), hq, hlt, h3, ?_⟩
    rw [List.take_of_length_le (by omega)] at h4
    simp only [Rows.uptoBulk]
    omega
theorem open_rows {α : Type} (enc' : α → List Value) (sz : Nat) (hel : ∀ x, (enc' x).length = sz) (hsz : P.cellsOf e = sz) (hz : 0 < sz) (Q : α → Prop) (μ : α → Nat)
    (elem : ∀ (n : Nat) (cs : List Value) (x : DataW H × List MemPlace), DataW.trod enc P W 0 (fun _ => true) true n e cs = some x → ∃ y, cs = enc' y ∧ Q y ∧ μ y ≤ Rows.uptoBulk x.1)
    {a : Option Addr} {len cap : Nat} {d : DataW H} {p : List MemPlace} (ht : P.underlying t = some (.slice e)) (h : DataW.Trod enc P W 0 (fun _ => true) true t (.slice a len cap) d p) :
    ∃ (xs : List α) (q : Option Nat), xs.length = len ∧ len ≤ cap ∧ cap ≤ maxLen ∧ (a = none → len = 0 ∧ cap = 0) ∧ Sl W a (xs.flatMap enc') q ∧ (∀ b, q = some b → b < W.heap.size) ∧ (∀ x ∈ xs, Q x) ∧ (xs.map μ).sum + 1 ≤ Rows.uptoBulk d :=
  open_rows_w enc' sz hel hsz hz Q μ (fun _ => True) (fun n cs x h _ => elem n cs x h) ht h (fun _ _ _ _ _ => trivial)
theorem mem_weightsAll {H : Type} {P : Program} {e : TypeId} {x : DataW H} : ∀ {l : List (DataW H)}, x ∈ l → ∀ m ∈ x.weights P e, m ∈ DataW.weightsAll P e l := by
  intro l
  induction l with
  | nil => intro h; cases h
  | cons y l ih =>
    intro h m hm
    simp only [DataW.weightsAll, List.mem_append]
    rcases List.mem_cons.1 h with rfl | h
    · exact .inl hm
    · exact .inr (ih h m hm)
/-- an element of a sized slice is sized -/
theorem row_weights {H : Type} {P : Program} {ts : List TypeId} {ds : List (DataW H)} {j : Nat} {t e : TypeId} {es sp : List (DataW H)} (hsz : (DataW.weightsEach P ts ds).all (· ≤ reachBytes) = true) (ht : ts[j]? = some t) (hd : ds[j]? = some (.slice es sp)) (hu : P.underlying t = some (.slice e))
    {x : DataW H} (hx : x ∈ es) : (x.weights P e).all (· ≤ reachBytes) = true := by
  rw [List.all_eq_true]
  intro m hm
  refine List.all_eq_true.1 hsz _ (DataW.weights_mem_each ht hd m ?_)
  simp only [DataW.weights, hu, List.mem_cons, List.mem_append]
  exact .inr (.inl (mem_weightsAll hx m hm))
theorem agg_weights {H : Type} {P : Program} {t : TypeId} {fs : Array Field} {parts : List (DataW H)} (hu : P.underlying t = some (.struct fs)) (h : ((DataW.agg parts).weights P t).all (· ≤ reachBytes) = true) : (DataW.weightsEach P (fs.toList.map (·.type)) parts).all (· ≤ reachBytes) = true := by
  simpa only [DataW.weights, hu] using h
theorem sized_rows {base : Nat} {spare : Nat → Bool} {held : Bool} {a : Option Addr} {len cap : Nat} {d : DataW H} {ps : List MemPlace} {ts : List TypeId} {ds : List (DataW H)} {j : Nat}
    (hsz : (DataW.weightsEach P ts ds).all (· ≤ reachBytes) = true) (ht : ts[j]? = some t) (hd : ds[j]? = some d) (hu : P.underlying t = some (.slice e)) {B : Nat} (hB : P.bytesOf e = B)
    (h : DataW.Trod enc P W base spare held t (.slice a len cap) d ps) : len * B ≤ 140737488351232 := by
  obtain ⟨fuel, hf⟩ := h
  rcases DataW.trod_slice hu hf with ⟨hcs, hx⟩ | ⟨x, l, c, elems, rest, n, _, hcs, hx, hb, hl, hm, hlen, _, _, _⟩
  · simp [Value.cells] at hcs
    obtain ⟨rfl, rfl, rfl⟩ := hcs
    simp
  · simp [Value.cells] at hcs
    obtain ⟨rfl, rfl, rfl⟩ := hcs
    obtain ⟨rfl, _⟩ := Prod.mk.inj hx
    have z := sized_slice hsz ht hd hu
    rw [hB] at z
    simp only [List.length_map] at z
    refine Nat.le_trans (Nat.mul_le_mul_right _ ?_) z
    omega
end
end Go.Proofs.Ytofajcifjmhomaa.Open
/- The document's Space, Check and Codes, walked. Conditions: none but the slice's. -/
set_option linter.unusedVariables false
set_option linter.unusedSimpArgs false
set_option maxRecDepth 100000
namespace Go.Proofs.Ytofajcifjmhomaa.Code
open Go.RowKit Go.IntWalk Go.Proofs.Ytofajcifjmhomaa.Lib Go.Proofs.Ytofajcifjmhomaa.Ints

set_option maxHeartbeats 8000000 in
theorem rspc_any (w : World) (A : Option Addr) (n c : Nat) (lens : List Int) (q : Option Nat) (hS : SlArg w A n c (i64s lens) q) (v : Nat) (r : Int) (hv : v = spVal lens) (hr : r = spErr lens) :
    Calls Try.prog 96 #[.slice A n c] w fun e w' => e = .returned (.tuple #[.int .i64 (v : Nat), .int .i64 r]) ∧ w = w' := by
  have HR := Hd.mk hr
  have HV := Hd.mk hv
  have HS := Hd.mk hS
  have hl : lens.length = n := by have := hS.len; simpa [i64s] using this
  have HBAD : Hd (bad lens = true → v = 0 ∧ r = 50) := ⟨fun h => ⟨by rw [hv]; unfold spVal; rw [if_pos h], by rw [hr]; unfold spErr; rw [if_pos h]⟩⟩
  clear hr hv hS
  go_enter Try.func96, Try.ntmps96
  by_cases h288 : (n : Int) > 288
  · obtain ⟨rfl, rfl⟩ := HBAD.out (bad_long (by omega))
    go_wp2
    go_ret2
    exact ⟨rfl, rfl⟩
  · go_wp2
    go_loopg [4, 12] n (fun kq sv jv wr => ∃ (j s : Nat), sv = .int .i64 (s : Nat) ∧ jv = .int .i64 (j : Nat) ∧ j + kq = n ∧ s ≤ j * 16384 ∧ Hd (s = spaceR (lens.take j)) ∧ Hd (∀ (i : Nat) (hi : i < lens.length), i < j → 0 ≤ lens[i] ∧ lens[i] ≤ 15) ∧ wr = w)
    case atStart => exact ⟨0, 0, rfl, rfl, by omega, by omega, ⟨by simp [spaceR]⟩, ⟨by intro i hi h; omega⟩, rfl⟩
    case round =>
      obtain ⟨j, s, rfl, rfl, hj, hs, HSS, HP, rfl⟩ := hrel
      by_cases hjn : j < n
      · obtain ⟨bd, off, rfl, _, hcc⟩ := HS.out.sl (by rw [i64s_length]; omega)
        have kd := (hcc j (by rw [i64s_length]; omega)).trans (i64s_get lens j)
        obtain ⟨x, hx⟩ : ∃ x, lens[j]? = some x := ⟨_, List.getElem?_eq_getElem (by omega)⟩
        rw [hx] at kd
        simp only [Option.map_some] at kd
        have HX : Hd (∃ h : j < lens.length, lens[j] = x) := ⟨List.getElem?_eq_some_iff.mp hx⟩
        clear hcc hx
        by_cases hx0 : x < 0
        · obtain ⟨rfl, rfl⟩ := HBAD.out (by obtain ⟨e, he⟩ := HX.out; exact bad_at e (by omega))
          go_wp2
          go_ret2
          exact ⟨rfl, rfl⟩
        · by_cases hx1 : x > 15
          · obtain ⟨rfl, rfl⟩ := HBAD.out (by obtain ⟨e, he⟩ := HX.out; exact bad_at e (by omega))
            go_wp2
            go_ret2
            exact ⟨rfl, rfl⟩
          · have HP2 : Hd (∀ (i : Nat) (hi : i < lens.length), i < j + 1 → 0 ≤ lens[i] ∧ lens[i] ≤ 15) := ⟨by
              intro i hi hij
              by_cases e : i = j
              · subst e
                obtain ⟨e, he⟩ := HX.out
                rw [he]; omega
              · exact HP.out i hi (by omega)⟩
            have HSX : Hd (spaceR (lens.take (j + 1)) = s + (if 0 < x then 2 ^ (15 - x.toNat) else 0)) := ⟨by
              obtain ⟨e, he⟩ := HX.out
              rw [spaceR_take e, he, ← HSS.out]⟩
            obtain ⟨v0, rfl⟩ := Int.eq_ofNat_of_zero_le (show 0 ≤ x by omega)
            by_cases hxp : (v0 : Int) > 0
            · obtain ⟨z, hz⟩ : ∃ z, z = 2 ^ (15 - v0) := ⟨_, rfl⟩
              have hzb : z ≤ 16384 := by
                rw [hz]
                have : 2 ^ (15 - v0) ≤ 2 ^ 14 := Nat.pow_le_pow_right (by omega) (by omega)
                simpa using this
              have HZ := Hd.mk hz
              clear hz
              go_wp2
              have e1 : wrap64 ((2 : Int) ^ (15 - v0)) = (z : Nat) := by
                rw [show (2 : Int) ^ (15 - v0) = (z : Nat) from by rw [HZ.out]; push_cast; rfl]
                exact wrap64_in _ (by omega)
              rw [e1]
              have e2 : wrap64 ((s : Int) + (z : Nat)) = ((s + z : Nat) : Int) := by
                rw [show (s : Int) + (z : Nat) = ((s + z : Nat) : Int) from by push_cast; rfl]
                exact wrap64_in _ (by omega)
              rw [e2]
              go_roundg (gk - 1)
              case measure => omega
              case rel => exact ⟨j + 1, s + z, rfl, by go_num, by omega, by omega, ⟨by rw [HSX.out, if_pos hxp, HZ.out, Int.toNat_natCast]⟩, HP2, rfl⟩
            · go_wp2
              go_roundg (gk - 1)
              case measure => omega
              case rel => exact ⟨j + 1, s, by go_num, by go_num, by omega, by omega, ⟨by rw [HSX.out, if_neg (by omega)]; rfl⟩, HP2, rfl⟩
      · obtain rfl : j = n := by omega
        have hb : bad lens = false := bad_not (by omega) (fun i hi => HP.out i hi (by omega))
        have hall := (bad_false hb).2
        obtain rfl : r = 0 := by rw [HR.out]; unfold spErr; rw [if_neg (by rw [hb]; simp)]
        obtain rfl : v = s := by rw [HV.out, HSS.out, ← hl, List.take_length, spaceR_eq lens hall]; unfold spVal; rw [if_neg (by rw [hb]; simp)]
        clear hb hall
        go_wp2
        go_ret2
        exact ⟨rfl, rfl⟩
set_option maxHeartbeats 8000000 in
theorem rchk_any (w : World) (A : Option Addr) (n c : Nat) (lens : List Int) (q : Option Nat) (hS : SlArg w A n c (i64s lens) q) (r : Int) (hr : r = check lens) :
    Calls Try.prog 75 #[.slice A n c] w fun e w' => e = .returned (.int .i64 r) ∧ w = w' := by
  have HR : Hd (r = checkR lens) := ⟨by rw [checkR_eq]; exact hr⟩
  have HS := Hd.mk hS
  have hl : lens.length = n := by have := hS.len; simpa [i64s] using this
  clear hr hS
  obtain ⟨b, hb⟩ : ∃ b, b = bad lens := ⟨_, rfl⟩
  have HB := Hd.mk hb
  clear hb
  obtain ⟨sp, hsp⟩ : ∃ sp, sp = spVal lens := ⟨_, rfl⟩
  obtain ⟨er, her⟩ : ∃ er, er = spErr lens := ⟨_, rfl⟩
  have HSP := Hd.mk hsp
  have HER := Hd.mk her
  clear hsp her
  go_enter Try.func75, Try.ntmps75
  go_wp2_with (fail)
  refine (rspc_any w A n c lens q HS.out sp er HSP.out HER.out).mono ?_
  rintro e w1 ⟨rfl, rfl⟩
  cases b with
  | true =>
    obtain rfl : er = 50 := by rw [HER.out]; unfold spErr; rw [if_pos HB.out.symm]
    obtain rfl : r = 50 := by rw [HR.out]; unfold checkR; rw [if_pos HB.out.symm]
    go_wp2
    go_ret
    exact ⟨rfl, rfl⟩
  | false =>
    obtain rfl : er = 0 := by rw [HER.out]; unfold spErr; rw [if_neg (by rw [← HB.out]; simp)]
    obtain ⟨hl288, hall⟩ := bad_false HB.out.symm
    have hsp2 : sp = spaceR lens := by rw [HSP.out, spaceR_eq lens hall]; unfold spVal; rw [if_neg (by rw [← HB.out]; simp)]
    have hspb : sp ≤ 4718592 := by
      have := spaceR_le lens
      rw [hsp2]
      omega
    have HSP2 := Hd.mk hsp2
    have HALL := Hd.mk hall
    have HR2 : Hd (r = if 32768 < sp then 51 else if sp = 32768 ∨ usedR lens = 0 ∨ (usedR lens = 1 ∧ sp = 16384) then 0 else 52) := ⟨by
      rw [HR.out, hsp2]
      unfold checkR
      rw [if_neg (by rw [← HB.out]; simp)]⟩
    clear hsp2 hall HR
    by_cases h51 : 32768 < sp
    · obtain rfl : r = 51 := by rw [HR2.out, if_pos h51]
      go_wp2
      go_ret
      exact ⟨rfl, rfl⟩
    · go_wp2
      go_loopg [5, 20] n (fun kq sv jv wr => ∃ (j s : Nat), sv = .int .i64 (s : Nat) ∧ jv = .int .i64 (j : Nat) ∧ j + kq = n ∧ s ≤ j ∧ Hd (s = usedR (lens.take j)) ∧ wr = w)
      case atStart => exact ⟨0, 0, rfl, rfl, by omega, by omega, ⟨by simp [usedR]⟩, rfl⟩
      case round =>
        obtain ⟨j, s, rfl, rfl, hj, hs, HSS, rfl⟩ := hrel
        by_cases hjn : j < n
        · obtain ⟨bd, off, rfl, _, hcc⟩ := HS.out.sl (by rw [i64s_length]; omega)
          have kd := (hcc j (by rw [i64s_length]; omega)).trans (i64s_get lens j)
          obtain ⟨x, hx⟩ : ∃ x, lens[j]? = some x := ⟨_, List.getElem?_eq_getElem (by omega)⟩
          rw [hx] at kd
          simp only [Option.map_some] at kd
          have HSX : Hd (usedR (lens.take (j + 1)) = s + (if 0 < x then 1 else 0)) := ⟨by
            obtain ⟨e, he⟩ := List.getElem?_eq_some_iff.mp hx
            rw [usedR_take e, he, ← HSS.out]⟩
          clear hcc hx
          by_cases hxp : x > 0
          · go_wp2
            go_roundg (gk - 1)
            case measure => omega
            case rel => exact ⟨j + 1, s + 1, by go_num, by go_num, by omega, by omega, ⟨by rw [HSX.out, if_pos hxp]⟩, rfl⟩
          · go_wp2
            go_roundg (gk - 1)
            case measure => omega
            case rel => exact ⟨j + 1, s, by go_num, by go_num, by omega, by omega, ⟨by rw [HSX.out, if_neg (by omega)]; rfl⟩, rfl⟩
        · obtain rfl : j = n := by omega
          have HR3 : Hd (r = if sp = 32768 ∨ s = 0 ∨ (s = 1 ∧ sp = 16384) then 0 else 52) := ⟨by rw [HR2.out, if_neg h51, HSS.out, ← hl, List.take_length]⟩
          clear HR2 HSS
          by_cases hw : sp = 32768
          · obtain rfl : r = 0 := by rw [HR3.out, if_pos (.inl hw)]
            have g1 : ((sp : Int) == 32768) = true := by simp; omega
            clear hw
            go_wp2
            go_ret
            exact ⟨rfl, rfl⟩
          · have g1 : ((sp : Int) == 32768) = false := by simp; omega
            by_cases hs0 : s = 0
            · obtain rfl : r = 0 := by rw [HR3.out, if_pos (.inr (.inl hs0))]
              have g2 : ((s : Int) == 0) = true := by simp; omega
              clear hs0 hw
              go_wp2
              go_ret
              exact ⟨rfl, rfl⟩
            · have g2 : ((s : Int) == 0) = false := by simp; omega
              by_cases hs1 : s = 1
              · have g3 : ((s : Int) == 1) = true := by simp; omega
                by_cases hc : sp = 16384
                · obtain rfl : r = 0 := by rw [HR3.out, if_pos (.inr (.inr ⟨hs1, hc⟩))]
                  have g4 : ((sp : Int) == 16384) = true := by simp; omega
                  clear hs0 hw hs1 hc
                  go_wp2
                  go_ret
                  exact ⟨rfl, rfl⟩
                · obtain rfl : r = 52 := by rw [HR3.out, if_neg (by omega)]
                  have g4 : ((sp : Int) == 16384) = false := by simp; omega
                  clear hs0 hw hs1 hc
                  go_wp2
                  go_ret
                  exact ⟨rfl, rfl⟩
              · obtain rfl : r = 52 := by rw [HR3.out, if_neg (by omega)]
                have g3 : ((s : Int) == 1) = false := by simp; omega
                clear hs0 hw hs1
                go_wp2
                go_ret
                exact ⟨rfl, rfl⟩
set_option maxHeartbeats 8000000 in
theorem rcodes_any (w : World) (A : Option Addr) (n c : Nat) (lens : List Int) (q : Option Nat) (hS : SlArg w A n c (i64s lens) q) (r : Int) (L : List Nat) (hr : r = check lens) (hL : L = codes lens) :
    Calls Try.prog 80 #[.slice A n c] w fun e w' => ∃ A' d', e = .returned (.tuple #[.slice A' L.length d', .int .i64 r]) ∧
      w'.ownsRow 0 3 1 (.slice A' L.length d') L.length (nv L) ∧ (∀ y, (Value.slice A' L.length d').ownBlock = some y → w.heap.size ≤ y) ∧ Fr w w' [] := by
  obtain ⟨j0, hj0, hj1, hj2, hj3⟩ := info_parts infoI64
  have HS := Hd.mk hS
  have HR := Hd.mk hr
  have HL := Hd.mk hL
  have hl : lens.length = n := by have := hS.len; simpa [i64s] using this
  clear hS hr hL
  go_enter Try.func80, Try.ntmps80
  go_wp2_with (fail)
  refine (rchk_any w A n c lens q HS.out r HR.out).mono ?_
  rintro e w1 ⟨rfl, rfl⟩
  by_cases hr0 : r = 0
  · subst hr0
    obtain ⟨hb, hsp⟩ := check_zero HR.out.symm
    obtain ⟨hl288, hall⟩ := bad_false hb
    have HALL := Hd.mk hall
    have HSP := Hd.mk hsp
    have hLn : L.length = n := by rw [HL.out, codes_len HR.out.symm, hl]
    clear hb hall hsp
    go_upto_region 5 with (refine wpList_make_full _ rfl _ _ 22 rfl 0 3 j0 (.int .i64 0) 1 Try.underlying22 hj0 hj1 hj2 .i64 .i64 _ _ n rfl rfl rfl rfl (by rw [hj3]; omega) (by unfold maxLen; omega) (Nat.zero_le _) ?_; intro w2 hown1 hgrow1; have O2 := Hd.mk hown1; have F2 := Hd.mk ((Fr.refl w []).grown hgrow1 (by simp)); clear hown1 hgrow1)
    have hgo : w.heap.size ≤ w.heap.size := Nat.le_refl _
    obtain ⟨go, hgoq⟩ : ∃ go, go = w.heap.size := ⟨_, rfl⟩
    rw [← hgoq] at O2 ⊢
    have hgo2 : w.heap.size ≤ go := by omega
    have O3 : Hd (w2.ownsRow 0 3 1 (.slice (some ⟨go, 0, none⟩) n n) n (nv (outL lens 1 0))) := ⟨by
      have e := toList_madeCells_one (Value.int .i64 0) (n * 1)
      have e2 : (Value.int .i64 0).cells = #[Value.int .i64 0] := rfl
      have e3 : nv (outL lens 1 0) = (madeCells (Value.int .i64 0).cells (n * 1)).toList := by
        rw [e2, e, ← outL_start, hl]
        simp [nv, i64s]
      rw [e3]
      exact O2.out⟩
    clear O2 hgo hgoq
    go_wp2
    go_loopg [6, 7, 8] 15 (fun kq xv lv nv' wr => ∃ (m nx la : Nat), xv = .int .i64 (nx : Nat) ∧ lv = .int .i64 (la : Nat) ∧ nv' = .int .i64 ((m + 1 : Nat) : Int) ∧ m + kq = 15 ∧ la ≤ 15 ∧ nx ≤ 32768 ∧ Hd (InvC lens (m + 1) 0 nx la) ∧ Hd (wr.ownsRow 0 3 1 (.slice (some ⟨go, 0, none⟩) n n) n (nv (outL lens (m + 1) 0))) ∧ Hd (Fr w wr []))
    case atStart => exact ⟨0, 0, 0, rfl, rfl, rfl, rfl, by omega, by omega, ⟨.inl ⟨rfl, rfl, by simp [firstF, cz, cnt]⟩⟩, O3, F2⟩
    case round =>
      obtain ⟨m, nx, la, rfl, rfl, rfl, hm, hla, hnx, HI, HO, HF⟩ := hrel
      obtain ⟨g0, rfl⟩ : ∃ g0 : Nat, g0 = gk := ⟨_, rfl⟩
      by_cases hm15 : m < 15
      · obtain ⟨nn, hnn⟩ : ∃ nn, nn = m + 1 := ⟨_, rfl⟩
        rw [← hnn] at HI HO ⊢
        have hn1 : 1 ≤ nn := by omega
        have hn15 : nn ≤ 15 := by omega
        have hn15i : (nn : Int) ≤ 15 := by omega
        have HNN := Hd.mk hnn
        clear hnn
        go_wp2_with (fail)
        go_loopg [6, 7, 25] n (fun kq xv lv iv wr => ∃ (i nx la : Nat), xv = .int .i64 (nx : Nat) ∧ lv = .int .i64 (la : Nat) ∧ iv = .int .i64 (i : Nat) ∧ i + kq = n ∧ la ≤ nn ∧ nx ≤ 32768 ∧ Hd (InvC lens nn i nx la) ∧ Hd (wr.ownsRow 0 3 1 (.slice (some ⟨go, 0, none⟩) n n) n (nv (outL lens nn i))) ∧ Hd (Fr w wr []))
        case atStart =>
          have hlan : la ≤ nn := by
            rcases HI.out with ⟨h1, _⟩ | ⟨_, h2, _⟩ <;> omega
          exact ⟨0, nx, la, rfl, rfl, rfl, by omega, hlan, hnx, HI, HO, HF⟩
        case round =>
          clear HI HO HF hnx
          obtain ⟨i, nx, la, rfl, rfl, rfl, hik, hla2, hnx, HI, HO, HF⟩ := hrel
          by_cases hi : i < n
          · obtain ⟨bd, off, rfl, _, hcc⟩ := (HS.out.sl.frame HF.out (by simp)) (by rw [i64s_length]; omega)
            have kd := (hcc i (by rw [i64s_length]; omega)).trans (i64s_get lens i)
            obtain ⟨x, hx⟩ : ∃ x, lens[i]? = some x := ⟨_, List.getElem?_eq_getElem (by omega)⟩
            rw [hx] at kd
            simp only [Option.map_some] at kd
            have HX : Hd (∃ h : i < lens.length, lens[i] = x) := ⟨List.getElem?_eq_some_iff.mp hx⟩
            clear hcc hx
            by_cases hxn : x = (nn : Int)
            · have g1 : (x != (nn : Int)) = false := by simp; exact hxn
              have HL2 : Hd (∃ h : i < lens.length, lens[i] = (nn : Int)) := ⟨by obtain ⟨h, e⟩ := HX.out; exact ⟨h, by rw [e, hxn]⟩⟩
              obtain ⟨hil, hie⟩ := HL2.out
              obtain ⟨p1, p2⟩ := inv_put hn1 hil hie HI.out
              obtain ⟨cd, hcd⟩ : ∃ cd, cd = firstF (cz lens) nn + cnt (lens.take i) nn := ⟨_, rfl⟩
              rw [← hcd] at p1 p2
              have hcb : cd ≤ 32768 := by
                obtain ⟨cd', c1, c2, c3, c4⟩ := code_fits HR.out.symm hil hie (by omega)
                have : 2 ^ nn ≤ 2 ^ 15 := Nat.pow_le_pow_right (by omega) (by omega)
                omega
              have P1 := Hd.mk p1
              have P2 := Hd.mk p2
              have O4 : Hd ((nv (outL lens nn i)).set i (.int .i64 (cd : Nat)) = nv (outL lens nn (i + 1))) := ⟨by
                rw [← outL_put hn1 hil hie, ← hcd]
                unfold nv i64s
                simp [List.map_set]⟩
              obtain ⟨u0, y0, f0⟩ := own_any HO.out (j := i) (by omega)
              clear hxn hil hie p1 p2 hcd
              by_cases hl0 : (la : Int) > 0
              · have e3 : Hd ((nx + 1) * 2 ^ (nn - la) = cd) := ⟨by have := P1.out; rw [if_pos (by omega)] at this; exact this⟩
                have hlan : (la : Int) ≤ (nn : Nat) := by omega
                go_upto_region 15 with (fail)
                have e4 : wrap64 (((nx : Int) + 1) * 2 ^ (nn - la)) = (cd : Nat) := by
                  rw [show ((nx : Int) + 1) * 2 ^ (nn - la) = (cd : Nat) from by rw [← e3.out]; push_cast; rfl]
                  exact wrap64_in _ (by omega)
                rw [e4]
                clear e4
                go_wp2
                go_roundg (gk - 1)
                case measure => omega
                case rel => exact ⟨i + 1, cd, nn, rfl, rfl, by go_num, by omega, Nat.le_refl _, hcb, P2, ⟨by rw [← O4.out]; exact (HO.out.stored _ _).1⟩, ⟨HF.out.setCell _ (.inr hgo2)⟩⟩
              · have e3 : nx = cd := by have := P1.out; rw [if_neg (by omega)] at this; exact this
                subst e3
                go_wp2
                go_roundg (gk - 1)
                case measure => omega
                case rel => exact ⟨i + 1, nx, nn, rfl, rfl, by go_num, by omega, Nat.le_refl _, hcb, P2, ⟨by rw [← O4.out]; exact (HO.out.stored _ _).1⟩, ⟨HF.out.setCell _ (.inr hgo2)⟩⟩
            · have g1 : (x != (nn : Int)) = true := by simp; exact hxn
              obtain ⟨hil, hie⟩ := HX.out
              have hne : lens[i] ≠ (nn : Int) := by rw [hie]; exact hxn
              have I2 := Hd.mk (inv_skip hil hne HI.out)
              have O4 : Hd (wr.ownsRow 0 3 1 (.slice (some ⟨go, 0, none⟩) n n) n (nv (outL lens nn (i + 1)))) := ⟨by rw [← outL_skip hil hne]; exact HO.out⟩
              clear hxn hil hie hne HO
              go_wp2
              go_roundg (gk - 1)
              case measure => omega
              case rel => exact ⟨i + 1, nx, la, rfl, rfl, by go_num, by omega, hla2, hnx, I2, O4, HF⟩
          · obtain rfl : i = n := by omega
            have I2 : Hd (InvC lens (nn + 1) 0 nx la) := ⟨inv_row hn1 (by rw [hl]; exact HI.out)⟩
            have O4 : Hd (wr.ownsRow 0 3 1 (.slice (some ⟨go, 0, none⟩) i i) i (nv (outL lens (nn + 1) 0))) := ⟨by rw [← outL_row, hl]; exact HO.out⟩
            clear HI HO
            have hla15 : la ≤ 15 := by omega
            go_wp2
            go_roundg (g0 - 1)
            case measure => omega
            case rel => exact ⟨nn, nx, la, rfl, rfl, by go_num, by have := HNN.out; omega, hla15, hnx, I2, O4, HF⟩
      · obtain rfl : m = 15 := by omega
        go_wp2
        go_ret2
        have h2 := HO.out
        rw [show 15 + 1 = 16 from rfl, outL_end HR.out.symm, ← HL.out] at h2
        rw [hLn]
        exact ⟨_, _, rfl, h2, (by intro y hy; cases hy; exact hgo2), HF.out⟩
  · have hne : (r != 0) = true := by simpa using hr0
    obtain rfl : L = [] := by rw [HL.out]; unfold codes; rw [if_neg (by rw [← HR.out]; exact hr0)]
    go_wp2
    go_ret2
    exact ⟨none, 0, rfl, (show w.ownsRow 0 3 1 (.slice none 0 0) 0 [] from own_nil _ _ _ _), (by intro j hj; cases hj), Fr.refl _ _⟩
end Go.Proofs.Ytofajcifjmhomaa.Code
/- Chapter 08: the document's Told walked. No condition. -/
set_option linter.unusedVariables false
set_option linter.unusedSimpArgs false
set_option maxRecDepth 100000
namespace Go.Proofs.Ytofajcifjmhomaa.Head
open Go.RowKit Go.Proofs.Ytofajcifjmhomaa.Lib Go.Proofs.Ytofajcifjmhomaa.Ints Go.Proofs.Ytofajcifjmhomaa.Runs
set_option maxHeartbeats 4000000 in
theorem told_any (w : World) (A B : Option Addr) (n c m d : Nat) (lit dist : List Int) (p q : Option Nat) (hX : SlArg w A n c (i64s lit) p) (hY : SlArg w B m d (i64s dist) q) (b : Bool) (hb : b = okH lit dist) :
    Calls Try.prog 59 #[.slice A n c, .slice B m d] w fun e w' => e = .returned (.bool b) ∧ w = w' := by
  have HX := Hd.mk hX
  have HY := Hd.mk hY
  have HB := Hd.mk hb
  have hl : lit.length = n := by have := hX.len; simpa [i64s] using this
  have hm : dist.length = m := by have := hY.len; simpa [i64s] using this
  subst hl hm
  clear hX hY hb
  by_cases hA : 257 ≤ lit.length ∧ lit.length ≤ 286 ∧ dist.length ≤ 30
  · obtain ⟨h1, h2, h3⟩ := hA
    obtain ⟨r1, hr1⟩ : ∃ r, r = Code.check lit := ⟨_, rfl⟩
    obtain ⟨r2, hr2⟩ : ∃ r, r = Code.check dist := ⟨_, rfl⟩
    have R1 := Hd.mk hr1
    have R2 := Hd.mk hr2
    clear hr1 hr2
    obtain ⟨x, hx⟩ : ∃ x, x = lit[256] := ⟨_, rfl⟩
    have HXV : Hd (lit.getD 256 0 = x) := ⟨by rw [List.getD_eq_getElem?_getD, List.getElem?_eq_getElem (by omega), hx]; rfl⟩
    obtain ⟨a, o1, rfl, _, ha⟩ := HX.out.sl (by simp [i64s]; omega)
    have ca := (ha 256 (by simp [i64s]; omega)).trans (by rw [i64s_get, List.getElem?_eq_getElem (by omega), ← hx])
    clear ha hx
    have hi : ((256 : Nat) : Int) < (lit.length : Int) := by omega
    go_enter Try.func59, Try.ntmps59
    go_wp2_with (fail)
    refine (Code.rchk_any w _ _ _ lit p HX.out r1 R1.out).mono ?_
    rintro e w1 ⟨rfl, rfl⟩
    by_cases e1 : r1 = 0
    · subst e1
      go_wp2_with (fail)
      refine (Code.rchk_any w _ _ _ dist q HY.out r2 R2.out).mono ?_
      rintro e w1 ⟨rfl, rfl⟩
      by_cases e2 : r2 = 0
      · subst e2
        by_cases e3 : x = 0
        · subst e3
          have hbf : b = false := by rw [HB.out]; unfold okH; exact decide_eq_false (fun h => h.2.2.2.2.2 HXV.out)
          subst hbf
          go_wp2
          go_ret
          exact ⟨rfl, rfl⟩
        · have e4 : (x != 0) = true := by simpa using e3
          have hbt : b = true := by rw [HB.out]; unfold okH; exact decide_eq_true ⟨h1, h2, h3, R1.out.symm, R2.out.symm, by rw [HXV.out]; exact e3⟩
          subst hbt
          go_wp2
          go_ret
          exact ⟨rfl, rfl⟩
      · have e4 : (r2 == 0) = false := by simpa using e2
        have hbf : b = false := by rw [HB.out]; unfold okH; exact decide_eq_false (fun h => e2 (by rw [R2.out]; exact h.2.2.2.2.1))
        subst hbf
        go_wp2
        go_ret
        exact ⟨rfl, rfl⟩
    · have e4 : (r1 == 0) = false := by simpa using e1
      have hbf : b = false := by rw [HB.out]; unfold okH; exact decide_eq_false (fun h => e1 (by rw [R1.out]; exact h.2.2.2.1))
      subst hbf
      go_wp2
      go_ret
      exact ⟨rfl, rfl⟩
  · have hbf : b = false := by rw [HB.out]; unfold okH; exact decide_eq_false (fun h => hA ⟨h.1, h.2.1, h.2.2.1⟩)
    subst hbf
    go_enter Try.func59, Try.ntmps59
    by_cases g1 : lit.length ≤ 256
    · have g1' : (lit.length : Int) ≤ 256 := by omega
      go_wp2
      go_ret
      exact ⟨rfl, rfl⟩
    · have g1' : ¬ (lit.length : Int) ≤ 256 := by omega
      by_cases g2 : 286 < lit.length
      · have g2' : (286 : Int) < (lit.length : Int) := by omega
        go_wp2
        go_ret
        exact ⟨rfl, rfl⟩
      · have g2' : ¬ (286 : Int) < (lit.length : Int) := by omega
        have g3' : (30 : Int) < (dist.length : Int) := by omega
        go_wp2
        go_ret
        exact ⟨rfl, rfl⟩
end Go.Proofs.Ytofajcifjmhomaa.Head
/- Chapter 08: the document's short walked. Conditions: at most 2^20 lengths. -/
set_option linter.unusedVariables false
set_option linter.unusedSimpArgs false
set_option maxRecDepth 100000
namespace Go.Proofs.Ytofajcifjmhomaa.Head
open Go.RowKit Go.Proofs.Ytofajcifjmhomaa.Lib Go.Proofs.Ytofajcifjmhomaa.Ints Go.Proofs.Ytofajcifjmhomaa.Runs
def stripN (l : List Int) : Nat → Nat
  | 0 => 0
  | n + 1 => if l.getD n 0 = 0 then stripN l n else n + 1
theorem stripN_le (l : List Int) : ∀ n, stripN l n ≤ n
  | 0 => Nat.le_refl 0
  | n + 1 => by
    rw [stripN]
    split
    · exact Nat.le_trans (stripN_le l n) (Nat.le_succ n)
    · exact Nat.le_refl _
def shortL (l : List Int) (k : Nat) : List Int := l.take (stripN l l.length) ++ List.replicate (k - stripN l l.length) 0
theorem short_cut (l : List Int) (k : Nat) : ∀ n, n ≤ l.length → k ≤ n → l.take (stripN l n) ++ List.replicate (k - stripN l n) 0 = l.take (cutN l k n)
  | 0, _, hk => by simp [stripN, cutN]; omega
  | n + 1, hn, hk => by
    rw [stripN, cutN]
    by_cases h0 : l.getD n 0 = 0
    · rw [if_pos h0]
      by_cases hk2 : k < n + 1
      · rw [if_pos ⟨hk2, h0⟩]
        exact short_cut l k n (by omega) (by omega)
      · rw [if_neg (fun h => hk2 h.1)]
        obtain rfl : k = n + 1 := by omega
        have ih := short_cut l n n (by omega) (Nat.le_refl n)
        have hc : cutN l n n = n := by
          cases n with
          | zero => rfl
          | succ n => rw [cutN, if_neg (fun h => Nat.lt_irrefl _ h.1)]
        have hs := stripN_le l n
        rw [hc] at ih
        have e : l.take (n + 1) = l.take n ++ [0] := by
          rw [List.take_succ_eq_append_getElem (by omega)]
          congr 2
          rw [List.getD_eq_getElem?_getD, List.getElem?_eq_getElem (by omega)] at h0
          simpa using h0
        rw [e, ← ih, show n + 1 - stripN l n = (n - stripN l n) + 1 from by omega, List.replicate_succ', List.append_assoc]
    · rw [if_neg h0, if_neg (fun h => h0 h.2), show k - (n + 1) = 0 from by omega]
      simp
theorem short_lit {l : List Int} (h : 257 ≤ l.length) : shortL l 257 = cutL l 257 := short_cut l 257 l.length (Nat.le_refl _) h
theorem short_dist (l : List Int) : shortL l 1 = distL l := by
  unfold distL
  by_cases h : 1 ≤ l.length
  · have e := short_cut l 1 l.length (Nat.le_refl _) h
    have hc : 1 ≤ cutN l 1 l.length := cutN_ge l 1 l.length h
    rw [if_neg (by unfold cutL; rw [List.length_take]; omega)]
    exact e
  · have : l = [] := List.length_eq_zero_iff.1 (by omega)
    subst this
    rfl
end Go.Proofs.Ytofajcifjmhomaa.Head
/- Chapter 08: the document's short, order and more walked. Conditions: at most 2^20 lengths. -/
set_option linter.unusedVariables false
set_option linter.unusedSimpArgs false
set_option maxRecDepth 100000
namespace Go.Proofs.Ytofajcifjmhomaa.Head
open Go.RowKit Go.Proofs.Ytofajcifjmhomaa.Lib Go.Proofs.Ytofajcifjmhomaa.Ints Go.Proofs.Ytofajcifjmhomaa.Runs
set_option maxHeartbeats 4000000 in
theorem short_any (w : World) (A : Option Addr) (n c : Nat) (l : List Int) (p : Option Nat) (hX : SlArg w A n c (i64s l) p) (k : Nat) (hk : k ≤ 1048576) (hn1 : n ≤ 1048576) (m : Nat) (hm : m = (shortL l k).length) :
    Calls Try.prog 60 #[.slice A n c, .int .i64 (k : Nat)] w fun e w' => ∃ A' d, e = .returned (.slice A' m d) ∧ w'.ownsRow 0 3 1 (.slice A' m d) m (i64s (shortL l k)) ∧ (∀ j, (Value.slice A' m d).ownBlock = some j → w.heap.size ≤ j) ∧ Fr w w' [] := by
  obtain ⟨i0, hi0, hz0, hz1, hz2⟩ := info_parts infoI64
  have HX := Hd.mk hX
  have hn2 := hX.le
  have hn3 := hX.max
  have HA := Hd.mk hX.nil
  unfold maxLen at hn3
  have HM := Hd.mk hm
  have hl : l.length = n := by have := hX.len; simpa [i64s] using this
  subst hl
  obtain ⟨s, hs⟩ : ∃ s, s = stripN l l.length := ⟨_, rfl⟩
  have HS := Hd.mk hs
  have hsl : s ≤ l.length := by rw [hs]; exact stripN_le _ _
  clear hX hs hm
  go_enter Try.func60, Try.ntmps60
  go_upto_block 0 with (fail)
  go_cut [5] from 9 to 20 (fun s5 wd => s5 = .int .i64 (s : Nat) ∧ w = wd)
  case first =>
    go_wp2_with (fail)
    go_loopg [5] l.length (fun kq jv wr => ∃ j : Nat, jv = .int .i64 (j : Nat) ∧ j = kq ∧ j ≤ l.length ∧ Hd (stripN l j = s) ∧ wr = w)
    case atStart => exact ⟨l.length, rfl, rfl, Nat.le_refl _, ⟨HS.out.symm⟩, rfl⟩
    case round =>
      obtain ⟨j, rfl, rfl, hj, HE, rfl⟩ := hrel
      match j, hj, HE with
      | 0, hj, HE =>
        obtain rfl : s = 0 := HE.out.symm
        go_wp2
        go_meet
        case rel => exact ⟨rfl, rfl⟩
      | j + 1, hj, HE =>
        obtain ⟨x, hx⟩ : ∃ x, x = l[j] := ⟨_, rfl⟩
        have HXV : Hd (l.getD j 0 = x) := ⟨by rw [List.getD_eq_getElem?_getD, List.getElem?_eq_getElem (by omega), hx]; rfl⟩
        obtain ⟨a, o1, rfl, _, ha⟩ := HX.out.sl (by simp [i64s]; omega)
        have ca := (ha j (by simp [i64s]; omega)).trans (by rw [i64s_get, List.getElem?_eq_getElem (by omega), ← hx])
        clear ha hx
        have hp : (0 : Int) < ((j + 1 : Nat) : Int) := by omega
        have hi : (j : Int) < (l.length : Int) := by omega
        by_cases h0 : x = 0
        · subst h0
          have HN : Hd (stripN l j = s) := ⟨by rw [← HE.out, stripN, if_pos HXV.out]⟩
          clear HE
          go_wp2
          go_roundg j
          case measure => omega
          case rel => exact ⟨j, by go_num, by omega, by omega, HN, rfl⟩
        · have hN : s = j + 1 := by rw [← HE.out, stripN, if_neg (by rw [HXV.out]; exact h0)]
          subst hN
          have h0' : (x == 0) = false := by simpa using h0
          clear HE
          go_wp2
          go_meet
          case rel => exact ⟨rfl, rfl⟩
  case rest =>
    obtain ⟨rfl, rfl⟩ := hcut
    have hs1 := Lens.run_cut_to (P := Try.prog) 22 3 .i64 Try.underlying22 hi0 1 hz1 A l.length c s (fun h => (HA.out h).2) (by omega)
    have XS : Hd (Sl (w.alloc (.cells #[] 3)) A (i64s (l.take s)) p) := ⟨by have := (HX.out.sl.take s).alloc (.cells #[] 3); simpa [i64s, List.map_take] using this⟩
    have hlt : (l.take s).length = s := by rw [List.length_take]; omega
    have HLT := Hd.mk hlt
    have NS : Hd (A = none → s = 0 ∧ c = 0) := ⟨fun h => by have := HA.out h; omega⟩
    have F1 : Hd (Fr w (w.alloc (.cells #[] 3)) []) := ⟨(Fr.refl w []).alloc _⟩
    have OZ : Hd ((w.alloc (.cells #[] 3)).ownsRow 0 3 1 (.slice (some ⟨w.heap.size, 0, none⟩) 0 0) 0 []) := ⟨World.ownsRow_lit w #[] 0 (Nat.zero_le _) (Nat.zero_le _) rfl⟩
    clear hlt
    go_wp2_with (at_builtin; refine wpList_append_sl rfl (.tmp 21) (.tmp 24) 22 rfl 3 i0 (.int .i64 0) 1 8 Try.underlying22 hi0 hz0 hz1 hz2 rfl (by decide) (.slice (some ⟨w.heap.size, 0, none⟩) 0 0) 0 [] rfl (by exact OZ.out) A s c (i64s (l.take s)) p rfl (by rw [i64s_length, HLT.out, Nat.mul_one]) (by exact XS.out) NS.out (i64s_one _) (by unfold maxLen; omega) (by omega) ?_; intro A3 c3 w3 hown3 hgrow3 haft3; rw [Nat.zero_add, List.nil_append] at hown3; rw [Nat.zero_add] at haft3; have O3 := Hd.mk hown3; have G3 := Hd.mk hgrow3; have AF3 := Hd.mk haft3; clear hown3 hgrow3 haft3; rw [Nat.zero_add])
    have F3 : Hd (Fr w w3 []) := ⟨F1.out.grown G3.out (fun k hk => .inr (by simp [Value.ownBlock] at hk; omega))⟩
    have N3 : Hd (∀ y, (Value.slice A3 s c3).ownBlock = some y → w.heap.size ≤ y) := ⟨fun y hy => by
      rcases AF3.out with e | ⟨z, e, hz⟩
      · rw [e] at hy; simp [Value.ownBlock] at hy; omega
      · rw [e] at hy; cases hy; rw [World.size_alloc] at hz; omega⟩
    clear G3 AF3 F1 OZ XS NS hs1
    go_loopg [6] (k - s) (fun kq ov wr => ∃ (i : Nat) (A' : Option Addr) (d : Nat), ov = .slice A' (s + i) d ∧ i + kq = k - s ∧ Hd (wr.ownsRow 0 3 1 (.slice A' (s + i) d) (s + i) (i64s (l.take s ++ List.replicate i 0))) ∧ Hd (∀ y, (Value.slice A' (s + i) d).ownBlock = some y → w.heap.size ≤ y) ∧ Hd (Fr w wr []))
    case atStart => exact ⟨0, A3, c3, rfl, by omega, ⟨by simpa using O3.out⟩, N3, F3⟩
    case round =>
      obtain ⟨i, A4, d, rfl, hi, HO, HN, HF⟩ := hrel
      by_cases hlt : i < k - s
      · have ht : ((s + i : Nat) : Int) < (k : Int) := by omega
        go_wp2_with (at_builtin; refine wpList_append_sl rfl (.tmp 30) (.tmp 31) 22 rfl 3 i0 (.int .i64 0) 1 8 Try.underlying22 hi0 hz0 hz1 hz2 rfl (by decide) (.slice A4 (s + i) d) (s + i) _ rfl (by exact HO.out.alloc _) (some ⟨wr.heap.size, 0, none⟩) 1 1 [.int .i64 0] (some wr.heap.size) rfl rfl (by exact sl_of_blk (blk_new _ _)) (by intro h; cases h) (by intro u hu; simp at hu; subst hu; rfl) (by unfold maxLen; omega) (by omega) ?_; intro A5 c5 w5 hown5 hgrow5 haft5; have O5 := Hd.mk hown5; have G5 := Hd.mk hgrow5; have AF5 := Hd.mk haft5; clear hown5 hgrow5 haft5)
        go_roundg (gk - 1)
        case measure => omega
        case rel =>
          refine ⟨i + 1, A5, c5, rfl, by omega, ⟨?_⟩, ⟨fun y hy => ?_⟩, ⟨(HF.out.alloc _).grown G5.out (fun y hy => .inr (HN.out y hy))⟩⟩
          · have h := O5.out
            rw [List.replicate_succ', ← List.append_assoc, i64s_app _ [0]]
            exact h
          · rw [← Nat.add_assoc] at hy
            rcases AF5.out with e | ⟨z, e, hz⟩
            · rw [e] at hy; exact HN.out y hy
            · rw [e] at hy; cases hy; rw [World.size_alloc] at hz; have := HF.out.size; omega
      · obtain rfl : i = k - s := by omega
        have hmm : m = s + (k - s) := by rw [HM.out, shortL, ← HS.out, List.length_append, HLT.out, List.length_replicate]
        subst hmm
        have ht : ¬ ((s + (k - s) : Nat) : Int) < (k : Int) := by omega
        go_wp2
        go_ret
        exact ⟨A4, d, rfl, by rw [shortL, ← HS.out]; exact HO.out, HN.out, HF.out⟩
theorem rorder_any (w : World) : Calls Try.prog 62 #[] w fun e w' => ∃ g, e = .returned (.slice (some ⟨g, 0, none⟩) 19 19) ∧ w'.heap[g]? = some (.cells ordC 3 (0, 0)) ∧ w.heap.size ≤ g ∧ Fr w w' [] := by
  go_enter Try.func62, Try.ntmps62
  go_wp2
  go_ret
  exact ⟨w.heap.size, rfl, blk_new w (.cells ordC 3), Nat.le_refl _, (Fr.refl w []).alloc _⟩
theorem rleast_any (w : World) (s L : Int) (h1 : s ≤ 18) (hL : L = leastN s) : Calls Try.prog 43 #[.int .i64 s] w fun e w' => e = .returned (.int .i64 L) ∧ w = w' := by
  rw [hL]; exact least_any w s h1
theorem rmore_any (w : World) (s : Int) (h0 : 0 ≤ s) (h1 : s ≤ 18) (L : Int) (hL : L = kbits s) : Calls Try.prog 64 #[.int .i64 s] w fun e w' => e = .returned (.int .i64 L) ∧ w = w' := by
  have hc : s < 16 ∨ s = 16 ∨ s = 17 ∨ s = 18 := by omega
  rcases hc with h | rfl | rfl | rfl
  · have e1 : (s == 16) = false := by simp; omega
    have e2 : (s == 17) = false := by simp; omega
    have e3 : (s == 18) = false := by simp; omega
    have : L = 0 := by rw [hL]; unfold kbits; rw [if_pos h]
    subst this
    clear hL
    go_enter Try.func64, Try.ntmps64
    go_wp2
    go_ret
    exact ⟨rfl, rfl⟩
  · obtain rfl : L = 2 := hL.trans (by decide)
    clear hL
    go_enter Try.func64, Try.ntmps64
    go_wp2
    go_ret
    exact ⟨rfl, rfl⟩
  · obtain rfl : L = 3 := hL.trans (by decide)
    clear hL
    go_enter Try.func64, Try.ntmps64
    go_wp2
    go_ret
    exact ⟨rfl, rfl⟩
  · obtain rfl : L = 7 := hL.trans (by decide)
    clear hL
    go_enter Try.func64, Try.ntmps64
    go_wp2
    go_ret
    exact ⟨rfl, rfl⟩
end Go.Proofs.Ytofajcifjmhomaa.Head
/- What is laid down is taken up. Plain Lean, no condition. -/
set_option maxRecDepth 100000
set_option linter.unusedVariables false
set_option linter.unusedSimpArgs false
namespace Go.Proofs.Ytofajcifjmhomaa.Code
open Go.Proofs.Ytofajcifjmhomaa.Num

theorem bit_same {V R M i : Nat} (h : V % 2 ^ M = R % 2 ^ M) (hi : i < M) : V / 2 ^ i % 2 = R / 2 ^ i % 2 := by
  have low : ∀ X : Nat, X % 2 ^ M / 2 ^ i % 2 = X / 2 ^ i % 2 := by
    intro X
    have e : 2 ^ M = 2 ^ i * 2 ^ (M - i) := by rw [← Nat.pow_add]; congr 1; omega
    rw [e, Nat.mod_mul_right_div_self]
    exact Nat.mod_mod_of_dvd _ (by
      have : 2 ^ 1 ∣ 2 ^ (M - i) := Nat.pow_dvd_pow 2 (by omega)
      simpa using this)
  rw [← low V, ← low R, h]
theorem rv_div {cd n i : Nat} (hi : i < n) : rv cd n / 2 ^ i % 2 = cd / 2 ^ (n - 1 - i) % 2 := by
  have h := rv_bit cd n i
  rw [decide_eq_true hi, Bool.true_and, Nat.testBit_eq_decide_div_mod_eq, Nat.testBit_eq_decide_div_mod_eq] at h
  have h1 : rv cd n / 2 ^ i % 2 < 2 := Nat.mod_lt _ (by omega)
  have h2 : cd / 2 ^ (n - 1 - i) % 2 < 2 := Nat.mod_lt _ (by omega)
  by_cases e : rv cd n / 2 ^ i % 2 = 1
  · rw [decide_eq_true e] at h
    have := of_decide_eq_true h.symm
    omega
  · rw [decide_eq_false e] at h
    have := of_decide_eq_false h.symm
    omega
theorem nextF_code {F : Nat → Nat} {k V h n cd : Nat} (hn : n ≤ 15) (hb : ∀ i, i < h → i < n → V / 2 ^ i % 2 = cd / 2 ^ (n - 1 - i) % 2) (h1 : firstF F n ≤ cd) (h2 : cd < firstF F n + F n) (hk : usedF F n < k) : ∀ f l, l + f = 16 → 1 ≤ l → l ≤ n → nextF F k V h f l (2 * (cd / 2 ^ (n - l + 1))) = if h < n then (0, 0, 0) else (1, usedF F n + (cd - firstF F n), n)
  | 0, l, hlf, hl, hln => by omega
  | f + 1, l, hlf, hl, hln => by
    simp only [nextF]
    by_cases hh : h < l
    · rw [if_pos hh, if_pos (by omega)]
    · rw [if_neg hh]
      have hc : 2 * (cd / 2 ^ (n - l + 1)) + V / 2 ^ (l - 1) % 2 = cd / 2 ^ (n - l) := by
        rw [hb (l - 1) (by omega) (by omega), show n - 1 - (l - 1) = n - l from by omega, Nat.pow_succ, ← Nat.div_div_eq_div_mul]
        omega
      rw [hc]
      by_cases e : l = n
      · subst e
        rw [Nat.sub_self, Nat.pow_zero, Nat.div_one, if_pos h2, if_neg hh]
      · have hf := first_ge F l (n - l - 1)
        rw [show l + (n - l - 1 + 1) = n from by omega, show n - l - 1 + 1 = n - l from by omega] at hf
        have hge : firstF F l + F l ≤ cd / 2 ^ (n - l) := by
          rw [Nat.le_div_iff_mul_le (Nat.pow_pos (by omega))]
          omega
        have hu : usedF F (l + 1) ≤ usedF F n := usedF_mono (by omega)
        have hu2 : usedF F (l + 1) = usedF F l + F l := rfl
        rw [if_neg (by omega), if_neg (by omega)]
        have ih := nextF_code hn hb h1 h2 hk f (l + 1) (by omega) (by omega) (by omega)
        rw [show n - (l + 1) + 1 = n - l from by omega] at ih
        exact ih
/-- a symbol whose code the bits begin with, as far as they are there -/
theorem next_code {lens : List Int} {S : Nat → Nat} {V h : Nat} {s : Int} {n cd : Nat} (hc : check lens = 0) (hS : SymOk lens S) (hn : n = bitsOf lens s) (hn0 : n ≠ 0) (hcd : cd = codeOf lens s) (hV : V % 2 ^ (min h n) = rv cd n % 2 ^ (min h n)) :
    ∃ j, next (cz lens) (used lens) V h = (if h < n then (0, 0, 0) else (1, j, n)) ∧ ((S j : Nat) : Int) = s := by
  obtain ⟨k1, k2, k3, k4, k5, k6⟩ := bitsOf_fits hc (s := s) (by rw [← hn]; exact hn0)
  rw [← hn] at k3 k4 k5
  rw [← hcd] at k3 k6
  obtain ⟨i, rfl⟩ := Int.eq_ofNat_of_zero_le k1
  rw [Int.toNat_natCast] at k5 k6
  obtain ⟨hi, hie⟩ := List.getElem?_eq_some_iff.mp k5
  obtain ⟨c2, a1, a2, a3, a4⟩ := code_fits hc hi hie (by omega)
  rw [k6] at a1
  cases a1
  have hr := cnt_take_lt hi hie
  have hz : cz lens n = cnt lens n := by unfold cz; rw [if_neg (by omega)]
  have hkl := kk_lt hi hie (by omega) k4
  refine ⟨usedF (cz lens) n + (cd - firstF (cz lens) n), ?_, ?_⟩
  · unfold next
    rw [if_neg (by omega)]
    have hb : ∀ i, i < h → i < n → V / 2 ^ i % 2 = cd / 2 ^ (n - 1 - i) % 2 := fun i h1 h2 => by rw [bit_same hV (by omega), rv_div h2]
    have := nextF_code (F := cz lens) (k := used lens) k4 hb (by omega) (by omega) (by omega) 15 1 rfl (by omega) (by omega)
    rw [show n - 1 + 1 = n from by omega, Nat.div_eq_of_lt k3] at this
    exact this
  · have := hS i hi n hie (by omega)
    rw [show usedF (cz lens) n + (cd - firstF (cz lens) n) = usedF (cz lens) n + cnt (lens.take i) n from by omega, this]
/-- a symbol's bits -/
def part (lens : List Int) (s : Int) : Nat × Nat := (rv (codeOf lens s) (bitsOf lens s), bitsOf lens s)
theorem part_lt (lens : List Int) (l : List Int) : ∀ p ∈ l.map (part lens), p.1 < 2 ^ p.2 := by
  intro p hp
  obtain ⟨s, _, rfl⟩ := List.mem_map.1 hp
  exact rv_lt _ _
end Go.Proofs.Ytofajcifjmhomaa.Code
